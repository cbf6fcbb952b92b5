/-
 ref17 (pools): Right: the walk.
 law17: inv, tenants: the walks.
-/
import Derived.Test.YtdbjihkgafhakaaGreatDoorSl21
import Derived.Test.YtdbjihkgafhakaaGreatDoorSl23
import Derived.Lib.QuietBelow
import Derived.BigQuiet
namespace Go.Proofs.YtdbjihkgafhakaaGreatDoor
open Go.RowKit Go.Sort
def allS (A : List AR) : List Int := A.flatMap AR.served
structure OkRow17 (m q next : Int) (A : List AR) (i : Nat) (z : AR) : Prop where
 uses : 1 ≤ z.uses
 served : (z.served.length : Int) = m
 shares : (z.sh.length : Int) = m
 name : ∀ j y, j < i → A[j]? = some y → y.name ≠ z.name
 share : ∀ s ∈ z.sh, okTL q s.1 s.2
 nums : ∀ t ∈ z.served, 0 ≤ t ∧ t < next
structure OkRows17 (a m q next : Int) (A : List AR) : Prop where
 head : 1 ≤ a ∧ 1 ≤ m ∧ 1 ≤ q ∧ q ≤ 64 ∧ (A.length : Int) ≤ a ∧ 0 ≤ next
 row : ∀ (i : Nat) z, A[i]? = some z → OkRow17 m q next A i z
 once : (allS A).Nodup
def Zd1 (a m q next : Int) (A : List AR) (w : World) (e : Ending) (w' : World) : Prop := (∃ r, e = .returned (.bool r) ∧ (r = true ↔ OkRows17 a m q next A)) ∧ Below w.heap.size w w'
theorem ZaU {a m q next : Int} {A : List AR} {w w' : World} (hn : ¬ OkRows17 a m q next A) (hb : Below w.heap.size w w') : Zd1 a m q next A w (.returned (.bool false)) w' := ⟨⟨false, rfl, fun h => absurd h (by decide), fun h => absurd h hn⟩, hb⟩
theorem Zhe {A : List AR} {k : Nat} {z : AR} (h : A[k]? = some z) : allS (A.take (k + 1)) = allS (A.take k) ++ z.served := by
 unfold allS
 rw [List.take_add_one, h, List.flatMap_append]
 simp
theorem Znw {α : Type} {l : List α} (h : ∀ (s t : Nat) x y, s < t → l[t]? = some x → l[s]? = some y → y ≠ x) : l.Nodup := by
 rw [List.nodup_iff_pairwise_ne, List.pairwise_iff_getElem]
 intro i j hi hj hij
 exact h i j _ _ hij (List.getElem?_eq_getElem hj) (List.getElem?_eq_getElem hi)
theorem Znx {α : Type} {l : List α} (h : l.Nodup) {s t : Nat} {x : α} (hs : l[s]? = some x) (ht : l[t]? = some x) : s = t := ZdL (f := id) (by simpa using h) hs ht rfl
theorem Zk9 {w : World} {b s n xb : Nat} {e t : TypeId} {v : Value} {xs : List Value} {cs : Array Value} {fr : Nat × Nat} (h : w.ownsRow b e s v n xs) (hx : w.heap[xb]? = some (.cells cs t fr)) (hne : e ≠ t) : v.ownBlock ≠ some xb := by
 obtain ⟨_, ⟨rfl, _⟩ | ⟨g, cap, cur, rfl, _, hb, _⟩⟩ := h
 ·exact fun e => by cases e
 ·intro e
  simp only [Value.ownBlock, Option.some.injEq] at e
  subst e
  rw [hb] at hx
  simp only [Option.some.injEq, Obj.cells.injEq] at hx
  exact hne hx.2.1
theorem Ziz {a b : Bool} {p : Prop} (h1 : a = true ↔ p) (h2 : b = true ↔ p) : a = b := by cases a <;> cases b <;> simp_all
def ZiA (l : List QP) : Prop := ∀ p ∈ l, ∀ y ∈ p.sh, totT (y.l.map Prod.fst) < 1000000 ∧ y.l.length < 1000000 ∧ ∀ d ∈ y.l, d.2.2.2.length < 1000000
set_option maxRecDepth 100000 in
set_option maxHeartbeats 16000000 in
theorem ZhB (a m q next : Int) (v : Value) (l : List QP) (w : World) (hl : SlAt w v l.length (l.flatMap encQP)) (hno : ¬ (1 ≤ a ∧ 1 ≤ m ∧ 1 ≤ q ∧ q ≤ 64 ∧ (l.length : Int) ≤ a ∧ 0 ≤ next)) :
 Calls Tryz.prog 24 #[.int .i64 a, .int .i64 m, .int .i64 q, v, .int .i64 next] w (Zd1 a m q next (l.map QP.abs) w) := by
 have HNO := Lib.hid (show ¬ OkRows17 a m q next (l.map QP.abs) from fun h => hno (by have := h.head; rw [List.length_map] at this; exact this))
 obtain ⟨la, lc, rfl, -⟩ := hl.form
 clear hl
 have hcs : a < 1 ∨ (¬ a < 1 ∧ m < 1) ∨ (¬ a < 1 ∧ ¬ m < 1 ∧ q < 1) ∨ (¬ a < 1 ∧ ¬ m < 1 ∧ ¬ q < 1 ∧ 64 < q) ∨ (¬ a < 1 ∧ ¬ m < 1 ∧ ¬ q < 1 ∧ ¬ 64 < q ∧ a < (l.length : Int)) ∨ (¬ a < 1 ∧ ¬ m < 1 ∧ ¬ q < 1 ∧ ¬ 64 < q ∧ ¬ a < (l.length : Int) ∧ next < 0) := by omega
 clear hno
 go_enter Tryz.func24, Tryz.ntmps24
 rcases hcs with h1 | ⟨h1, h2⟩ | ⟨h1, h2, h3⟩ | ⟨h1, h2, h3, h4⟩ | ⟨h1, h2, h3, h4, h5⟩ | ⟨h1, h2, h3, h4, h5, h6⟩
 all_goals
  go_wp2_with fail
  go_ret
  exact ZaU HNO.out (Below.refl _ _)
set_option maxRecDepth 100000 in
set_option maxHeartbeats 32000000 in
theorem ZiB (a q next : Int) (m : Nat) (v : Value) (l : List QP) (w : World) (hl : SlAt w v l.length (l.flatMap encQP)) (hi : ∀ p ∈ l, QPAt q w p) (hsz : ZiA l) (hlen : l.length ≤ 1000) (hm : m ≤ 1000) (hh : 1 ≤ a ∧ 1 ≤ m ∧ 1 ≤ q ∧ q ≤ 64 ∧ (l.length : Int) ≤ a ∧ 0 ≤ next) :
 Calls Tryz.prog 24 #[.int .i64 a, .int .i64 m, .int .i64 q, v, .int .i64 next] w (Zd1 a m q next (l.map QP.abs) w) := by
 have HL := Lib.hid hl
 have HI := Lib.hid hi
 have HSZ := Lib.hid hsz
 have HN := Lib.hid (And.intro hlen (And.intro hm hh))
 obtain ⟨la, lc, rfl, -⟩ := hl.form
 have h1 : ¬ a < 1 := by omega
 have h2 : ¬ (m : Int) < 1 := by omega
 have h3 : ¬ q < 1 := by omega
 have h4 : ¬ 64 < q := by omega
 have h5 : ¬ a < (l.length : Int) := by omega
 have h6 : ¬ next < 0 := by omega
 clear hl hi hsz hlen hm hh
 go_enter Tryz.func24, Tryz.ntmps24
 go_wp2_with fail
 clear h1 h2 h3 h4 h5 h6
 go_loopg [11, 12] l.length (fun g av i wr => ∃ k : Nat, g = l.length - k ∧ i = .int .i64 k ∧ k ≤ l.length ∧ (∀ (i : Nat) z, i < k → (l.map QP.abs)[i]? = some z → OkRow17 m q next (l.map QP.abs) i z) ∧ wr.ownsRow w.heap.size 3 1 av (allS ((l.map QP.abs).take k)).length ((allS ((l.map QP.abs).take k)).flatMap encZ) ∧ Below w.heap.size w wr ∧ (allS ((l.map QP.abs).take k)).length = k * m)
 case atStart => exact ⟨0, rfl, rfl, Nat.zero_le _, (fun i z hi => by omega), Zal (Nat.le_refl _), box_below, by simp [allS]⟩
 case round =>
  obtain ⟨k, hg, rfl, hk, hpre, ho, hb, hkm⟩ := hrel
  have HG := Lib.hid hg
  have HPRE := Lib.hid hpre
  have HO := Lib.hid ho
  have HB := Lib.hid hb
  have HKM := Lib.hid hkm
  clear hg hpre ho hb hkm
  by_cases hlt : k < l.length
  ·obtain ⟨p, hp⟩ : ∃ p, l[k]? = some p := ⟨_, List.getElem?_eq_getElem hlt⟩
   have HP := Lib.hid hp
   have HPA := Lib.hid (show (l.map QP.abs)[k]? = some p.abs by rw [List.getElem?_map, hp]; rfl)
   obtain ⟨g, off, hla, hc1⟩ := (HL.out.below HB.out).cells ZaW (by decide) hp
   subst hla
   have hQ := HI.out p (List.mem_of_getElem? hp)
   obtain ⟨sa, sc, hsv, -⟩ := hQ.sv.form
   obtain ⟨ha, hc, hhv, -⟩ := hQ.hv.form
   have HSV := Lib.hid hsv
   have HHV := Lib.hid hhv
   have HRG := Lib.hid (show wr.rangeAt g (off + k * 4) [.string p.name, .int .i64 p.uses, .slice sa p.served.length sc, .slice ha p.sh.length hc] from fun j u hu => hc1 j u (by unfold encQP; rw [hsv, hhv]; exact hu))
   have hkl : (k : Int) < (l.length : Int) := by omega
   clear hp hc1 hQ hsv hhv
   go_upto_region 8 with (refine wpList_load_mid rfl 55 _ rfl g (off + k * 4) rfl [.string p.name, .int .i64 p.uses, .slice sa p.served.length sc, .slice ha p.sh.length hc] _ HRG.out Tryz.underlying55 rfl (qp_sz p) ?_)
   obtain ⟨w3, hw3⟩ : ∃ w3 : World, w3 = wr.alloc (.cells #[.string p.name, .int .i64 p.uses, .slice sa p.served.length sc, .slice ha p.sh.length hc] 55) := ⟨_, rfl⟩
   obtain ⟨xb, hxb⟩ : ∃ xb : Nat, xb = wr.heap.size := ⟨_, rfl⟩
   rw [← hw3, ← hxb]
   have HX3 := Lib.hid (show w3.heap[xb]? = some (.cells #[.string p.name, .int .i64 p.uses, .slice sa p.served.length sc, .slice ha p.sh.length hc] 55 (0, 0)) by rw [hw3, hxb]; exact Zf)
   have HB3 := Lib.hid (show Below w.heap.size w w3 by rw [hw3]; exact HB.out.alloc HB.out.size _)
   have HO3 := Lib.hid (show w3.ownsRow w.heap.size 3 1 u11 (allS ((l.map QP.abs).take k)).length ((allS ((l.map QP.abs).take k)).flatMap encZ) by rw [hw3]; exact HO.out.alloc _)
   have HXW := Lib.hid (show w.heap.size ≤ xb by rw [hxb]; exact HB.out.size)
   clear hw3 hxb HO HRG
   have x1 : w3.cell? ⟨xb, 1, none⟩ = some (.int .i64 p.uses) := Za HX3.out rfl
   have x2 : w3.cell? ⟨xb, 2, none⟩ = some (.slice sa p.served.length sc) := Za HX3.out rfl
   have x3 : w3.cell? ⟨xb, 3, none⟩ = some (.slice ha p.sh.length hc) := Za HX3.out rfl
   have hcs : p.uses < 1 ∨ (¬ p.uses < 1 ∧ ((p.served.length : Int) != (m : Int)) = true) ∨ (¬ p.uses < 1 ∧ ((p.served.length : Int) != (m : Int)) = false ∧ ((p.sh.length : Int) != (m : Int)) = true) ∨ (¬ p.uses < 1 ∧ ((p.served.length : Int) != (m : Int)) = false ∧ ((p.sh.length : Int) != (m : Int)) = false) := by
    simp only [bne_iff_ne, ne_eq, bne_eq_false_iff_eq, Int.ofNat_inj]
    omega
   rcases hcs with c1 | ⟨c1, c2⟩ | ⟨c1, c2, c3⟩ | ⟨c1, c2, c3⟩
   ·have HNO := Lib.hid (show ¬ OkRows17 a m q next (l.map QP.abs) from fun h => by have h1 := (h.row k p.abs HPA.out).uses; exact absurd (show 1 ≤ p.uses from h1) (by omega))
    go_wp2_with fail
    go_ret
    exact ZaU HNO.out HB3.out
   ·have HNO := Lib.hid (show ¬ OkRows17 a m q next (l.map QP.abs) from fun h => by have h1 : (p.served.length : Int) = m := (h.row k p.abs HPA.out).served; rw [h1] at c2; simp at c2)
    go_wp2_with fail
    go_ret
    exact ZaU HNO.out HB3.out
   ·have HNO := Lib.hid (show ¬ OkRows17 a m q next (l.map QP.abs) from fun h => by have h1 : ((p.sh.map QS.abs).length : Int) = m := (h.row k p.abs HPA.out).shares; rw [List.length_map] at h1; rw [h1] at c3; simp at c3)
    go_wp2_with fail
    go_ret
    exact ZaU HNO.out HB3.out
   ·have HLN := Lib.hid (show p.served.length = m ∧ p.sh.length = m ∧ 1 ≤ p.uses by
     simp only [bne_eq_false_iff_eq, Int.ofNat_inj] at c2 c3
     exact ⟨c2, c3, by omega⟩)
    go_wp2_with fail
    clear x1 x2 x3 c1 c2 c3
    go_loopg [14] k (fun g i w' => ∃ j : Nat, g = k - j ∧ i = .int .i64 j ∧ j ≤ k ∧ (∀ (t : Nat) y, t < j → (l.map QP.abs)[t]? = some y → y.name ≠ p.name) ∧ Below w3.heap.size w3 w')
    case atStart => exact ⟨0, rfl, rfl, Nat.zero_le _, fun t y ht => by omega, Below.refl _ _⟩
    case round =>
     obtain ⟨j, hg, rfl, hj, hnm, hb⟩ := hrel
     have HG2 := Lib.hid hg
     have HNM := Lib.hid hnm
     have HBJ := Lib.hid hb
     have HBW := Lib.hid (HB3.out.trans (hb.mono HB3.out.size))
     clear hg hnm hb
     by_cases hlj : j < k
     ·obtain ⟨y, hy⟩ : ∃ y, l[j]? = some y := ⟨_, List.getElem?_eq_getElem (by omega)⟩
      have HY := Lib.hid (show (l.map QP.abs)[j]? = some y.abs by rw [List.getElem?_map, hy]; rfl)
      obtain ⟨g', off', hla', hcy⟩ := (HL.out.below HBW.out).cells ZaW (by decide) hy
      cases hla'
      have e0 := cell_regrown (show wr.cell? ⟨g, off + j * 4, none⟩ = some (.string y.name) from hcy 0 _ rfl)
      have x0 := cell_regrown (show wr.cell? ⟨xb, 0, none⟩ = some (.string p.name) from Za ((HBJ.out.block _ (Zb HX3.out)).trans HX3.out) rfl)
      have hjk : (j : Int) < (k : Int) := by omega
      have hjl : (j : Int) < (l.length : Int) := by omega
      clear hy hcy
      rcases hpb : (y.name.toList == p.name.toList) with _ | _
      ·have HNE := Lib.hid (show y.name ≠ p.name from ZlX hpb)
       go_upto_region 13 with fail
       refine wp_region_quiet_below (by kernel_rfl) (by kernel_rfl) ?_
       repeat (go_big_quiet_step (fail))
       refine wpQuiet_nil ?_
       rintro _ ⟨⟨dq, osq⟩, rfl⟩
       obtain ⟨w4, hw4⟩ : ∃ w4 : World, w4 = grow (redrawn wr dq) osq := ⟨_, rfl⟩
       have HB4 := Lib.hid (HBJ.out.trans ((show Below wr.heap.size wr w4 by rw [hw4]; exact below_regrown wr dq osq).mono HBJ.out.size))
       rw [show (grow (redrawn wr (Regrown.mk dq osq).d) (Regrown.mk dq osq).os) = w4 from hw4.symm]
       clear hw4 e0 x0 hpb
       have hkb := HN.out.1
       go_wp2_with fail
       go_roundg (k - (j + 1))
       case rel =>
        refine ⟨j + 1, rfl, by go_num, by omega, fun t z ht hz => ?_, HB4.out⟩
        rcases Nat.lt_or_ge t j with h | h
        ·exact HNM.out t z h hz
        ·obtain rfl : t = j := by omega
         obtain rfl := Option.some.inj (HY.out.symm.trans hz)
         exact HNE.out
       case measure => have := HG2.out; omega
      ·have HNO := Lib.hid (show ¬ OkRows17 a m q next (l.map QP.abs) from fun h => (h.row k p.abs HPA.out).name j y.abs hlj HY.out (Zih hpb))
       go_upto_region 13 with fail
       refine wp_region_quiet_below (by kernel_rfl) (by kernel_rfl) ?_
       repeat (go_big_quiet_step (fail))
       refine wpQuiet_nil ?_
       rintro _ ⟨⟨dq, osq⟩, rfl⟩
       obtain ⟨w4, hw4⟩ : ∃ w4 : World, w4 = grow (redrawn wr dq) osq := ⟨_, rfl⟩
       have HB4 := Lib.hid (HBW.out.trans ((show Below wr.heap.size wr w4 by rw [hw4]; exact below_regrown wr dq osq).mono HBW.out.size))
       rw [show (grow (redrawn wr (Regrown.mk dq osq).d) (Regrown.mk dq osq).os) = w4 from hw4.symm]
       clear hw4 e0 x0 hpb
       go_wp2_with fail
       go_ret
       exact ZaU HNO.out HB4.out
     ·obtain rfl : j = k := by omega
      have HO4 := Lib.hid (Zk HO3.out HBJ.out)
      have HX4 := Lib.hid ((HBJ.out.block _ (Zb HX3.out)).trans HX3.out)
      go_wp2_with fail
      go_loopg [11, 15] m (fun g av i w' => ∃ t : Nat, g = m - t ∧ i = .int .i64 t ∧ t ≤ m ∧ (∀ (s : Nat) y, s < t → p.sh[s]? = some y → okTL q y.gv (y.l.map Prod.fst)) ∧ (∀ (s : Nat) z, s < t → p.served[s]? = some z → 0 ≤ z ∧ z < next) ∧ w'.ownsRow w.heap.size 3 1 av (allS ((l.map QP.abs).take j) ++ p.served.take t).length ((allS ((l.map QP.abs).take j) ++ p.served.take t).flatMap encZ) ∧ w'.heap[xb]? = some (.cells #[.string p.name, .int .i64 p.uses, .slice sa p.served.length sc, .slice ha p.sh.length hc] 55 (0, 0)) ∧ Below w.heap.size w w')
      case atStart => exact ⟨0, rfl, rfl, Nat.zero_le _, (fun s y hs => by omega), (fun s y hs => by omega), by rw [List.take_zero, List.append_nil]; exact HO4.out, HX4.out, HBW.out⟩
      case round =>
       obtain ⟨t, hg, rfl, ht, hsh, hsn, ho, hx, hb⟩ := hrel
       have HG3 := Lib.hid hg
       have HSH := Lib.hid hsh
       have HSN := Lib.hid hsn
       have HOT := Lib.hid ho
       have HXT := Lib.hid hx
       have HBT := Lib.hid hb
       clear hg hsh hsn ho hx hb
       by_cases hlt2 : t < m
       ·obtain ⟨y, hy⟩ : ∃ y, p.sh[t]? = some y := ⟨_, List.getElem?_eq_getElem (by have := HLN.out; omega)⟩
        obtain ⟨z, hz⟩ : ∃ z, p.served[t]? = some z := ⟨_, List.getElem?_eq_getElem (by have := HLN.out; omega)⟩
        have HY := Lib.hid hy
        have HZ := Lib.hid hz
        have HZM := Lib.hid (HSZ.out p (List.mem_of_getElem? HP.out) y (List.mem_of_getElem? hy))
        have hQ := (HI.out p (List.mem_of_getElem? HP.out)).below HBT.out
        have hDR := hQ.inv y (List.mem_of_getElem? hy)
        obtain ⟨ya, yc, hyv, -⟩ := hDR.form
        obtain ⟨g7, o7, hq7, hc7⟩ := (show SlAt wr (.slice ha p.sh.length hc) p.sh.length (p.sh.flatMap (encQS q)) by have h := hQ.hv; rw [HHV.out] at h; exact h).cells (ZbH q) (by decide) hy
        subst hq7
        obtain ⟨g8, o8, hq8, hc8⟩ := (show SlAt wr (.slice sa p.served.length sc) p.served.length (p.served.flatMap encZ) by have h := hQ.sv; rw [HSV.out] at h; exact h).cells ZaP (by decide) hz
        subst hq8
        have htm : (t : Int) < (m : Int) := by omega
        have hts : (t : Int) < (p.sh.length : Int) := by have := HLN.out; omega
        have htv : (t : Int) < (p.served.length : Int) := by have := HLN.out; omega
        have x2 := cell_regrown (show wr.cell? ⟨xb, 2, none⟩ = some (.slice (some ⟨g8, o8, none⟩) p.served.length sc) from Za HXT.out rfl)
        have x3 := cell_regrown (show wr.cell? ⟨xb, 3, none⟩ = some (.slice (some ⟨g7, o7, none⟩) p.sh.length hc) from Za HXT.out rfl)
        have s1 := cell_regrown (show wr.cell? ⟨g7, o7 + t * 3 + 1, none⟩ = some (.slice ya y.l.length yc) by rw [← hyv]; exact hc7 1 _ rfl)
        have s2 := cell_regrown (show wr.cell? ⟨g7, o7 + t * 3 + 2, none⟩ = some (.bool y.gv) from hc7 2 _ rfl)
        have z0 := cell_regrown (show wr.cell? ⟨g8, o8 + t, none⟩ = some (.int .i64 z) by have := hc8 0 _ rfl; simpa using this)
        have HSR := Lib.hid (show ∀ (d : Nat) (os : Array Obj) (r : Bool), (r = true ↔ okTL q y.gv (y.l.map Prod.fst)) → Calls Tryz.prog 54 #[.int .i64 q, .slice ya y.l.length yc, .bool y.gv] (grow (redrawn wr d) os) (fun e w' => e = .returned (.bool r) ∧ Below (grow (redrawn wr d) os).heap.size (grow (redrawn wr d) os) w') from fun d os r hr => by
         have h := Ziy q y.gv y.v y.l _ (hDR.below (below_regrown wr d os)) HZM.out.1 HZM.out.2.1 HZM.out.2.2
         rw [hyv] at h
         refine h.mono ?_
         rintro e w' ⟨⟨r2, rfl, hr2⟩, hb⟩
         refine ⟨?_, hb⟩
         rw [show r2 = r from Ziz hr2 hr])
        clear hy hz hQ hDR hyv hc7 hc8
        by_cases hok : okTL q y.gv (y.l.map Prod.fst)
        ·have HSR2 := Lib.hid (fun d os => HSR.out d os true ⟨fun _ => hok, fun _ => rfl⟩)
         have HOKT := Lib.hid hok
         clear HSR hok
         by_cases hz0 : z < 0
         ·have HNO := Lib.hid (show ¬ OkRows17 a m q next (l.map QP.abs) from fun h => by have h1 := ((h.row j p.abs HPA.out).nums z (List.mem_of_getElem? HZ.out)).1; omega)
          go_upto_region 18 with fail
          refine wp_region_quiet_below (by kernel_rfl) (by kernel_rfl) ?_
          repeat (go_big_quiet_step (exact Calls.regrown_of (HSR2.out _ _)))
          refine wpQuiet_nil ?_
          rintro _ ⟨⟨dq, osq⟩, rfl⟩
          obtain ⟨w4, hw4⟩ : ∃ w4 : World, w4 = grow (redrawn wr dq) osq := ⟨_, rfl⟩
          have HB4 := Lib.hid (HBT.out.trans ((show Below wr.heap.size wr w4 by rw [hw4]; exact below_regrown wr dq osq).mono HBT.out.size))
          rw [show (grow (redrawn wr (Regrown.mk dq osq).d) (Regrown.mk dq osq).os) = w4 from hw4.symm]
          clear hw4 x2 x3 s1 s2 z0
          go_wp2_with fail
          go_ret
          exact ZaU HNO.out HB4.out
         ·by_cases hz1 : next ≤ z
          ·have HNO := Lib.hid (show ¬ OkRows17 a m q next (l.map QP.abs) from fun h => by have h1 := ((h.row j p.abs HPA.out).nums z (List.mem_of_getElem? HZ.out)).2; omega)
           go_upto_region 18 with fail
           refine wp_region_quiet_below (by kernel_rfl) (by kernel_rfl) ?_
           repeat (go_big_quiet_step (exact Calls.regrown_of (HSR2.out _ _)))
           refine wpQuiet_nil ?_
           rintro _ ⟨⟨dq, osq⟩, rfl⟩
           obtain ⟨w4, hw4⟩ : ∃ w4 : World, w4 = grow (redrawn wr dq) osq := ⟨_, rfl⟩
           have HB4 := Lib.hid (HBT.out.trans ((show Below wr.heap.size wr w4 by rw [hw4]; exact below_regrown wr dq osq).mono HBT.out.size))
           rw [show (grow (redrawn wr (Regrown.mk dq osq).d) (Regrown.mk dq osq).os) = w4 from hw4.symm]
           clear hw4 x2 x3 s1 s2 z0
           go_wp2_with fail
           go_ret
           exact ZaU HNO.out HB4.out
          ·go_upto_region 18 with fail
           refine wp_region_quiet_below (by kernel_rfl) (by kernel_rfl) ?_
           repeat (go_big_quiet_step (exact Calls.regrown_of (HSR2.out _ _)))
           refine wpQuiet_nil ?_
           rintro _ ⟨⟨dq, osq⟩, rfl⟩
           obtain ⟨w4, hw4⟩ : ∃ w4 : World, w4 = grow (redrawn wr dq) osq := ⟨_, rfl⟩
           have hb4 : Below wr.heap.size wr w4 := by rw [hw4]; exact below_regrown wr dq osq
           have HB4 := Lib.hid (HBT.out.trans (hb4.mono HBT.out.size))
           have HO4 := Lib.hid (Zk HOT.out hb4)
           have HX4 := Lib.hid ((hb4.block _ (Zb HXT.out)).trans HXT.out)
           rw [show (grow (redrawn wr (Regrown.mk dq osq).d) (Regrown.mk dq osq).os) = w4 from hw4.symm]
           have z4 : w4.cell? ⟨g8, o8 + t, none⟩ = some (.int .i64 z) := by rw [hw4]; exact z0 dq osq
           clear hw4 hb4 x2 x3 s1 s2 z0
           have x2 : w4.cell? ⟨xb, 2, none⟩ = some (.slice (some ⟨g8, o8, none⟩) p.served.length sc) := Za HX4.out rfl
           obtain ⟨N, hN⟩ : ∃ N, N = (allS ((l.map QP.abs).take j) ++ p.served.take t).length := ⟨_, rfl⟩
           obtain ⟨XS, hXS⟩ : ∃ XS, XS = (allS ((l.map QP.abs).take j) ++ p.served.take t).flatMap encZ := ⟨_, rfl⟩
           rw [← hN, ← hXS] at HO4
           have HNX := Lib.hid (And.intro hN hXS)
           have hNb : N ≤ 1001000 := by
            have h1 : (p.served.take t).length ≤ 1000 := by rw [List.length_take]; have := HN.out.2.1; omega
            have h2 : j * m ≤ 1000 * 1000 := Nat.mul_le_mul (by have := HN.out.1; omega) HN.out.2.1
            rw [hN, List.length_append, HKM.out]
            omega
           have hc2 : N < 140737488355328 := by omega
           have hc3 : (N + 1) * 8 ≤ 140737488355328 := by omega
           have hc1 : w.heap.size ≤ w4.heap.size := HB4.out.size
           clear hN hXS
           go_wp2_with (at_builtin; refine Zv (us := #[.int .i64 z]) rfl _ _ 52 rfl w.heap.size _ 1 8 Tryz.underlying52 ZdZ rfl (by decide) u11 N XS rfl HO4.out rfl rfl (by simp [Value.oneCell']) ?c1 ?c2 ?c3 ?_; (case c1 => exact hc1); (case c2 => exact hc2); (case c3 => exact hc3); intro gg gcap w5 ho5 hg5 hat5)
           have HO5 := Lib.hid ho5
           have HB5 := Lib.hid (HB4.out.trans ⟨hg5.os, hg5.tape, hg5.output, hg5.size, fun i hi => hg5.block i (by omega) (fun e => by have := Zl HO4.out i e.symm; omega)⟩ : Below w.heap.size w w5)
           have HX5 := Lib.hid ((hg5.block xb (Zb HX4.out) (fun e => Zk9 HO4.out HX4.out (by decide) e.symm)).trans HX4.out)
           have hml := HN.out.2.1
           clear ho5 hg5 hat5 z4 x2 hNb hc1 hc2 hc3
           go_wp2_with fail
           go_roundg (m - (t + 1))
           case rel =>
            have hT : p.served.take (t + 1) = p.served.take t ++ [z] := by rw [List.take_add_one, HZ.out]; rfl
            refine ⟨t + 1, rfl, by rw [show wrap64 ((t : Int) + 1) = ((t + 1 : Nat) : Int) by unfold wrap64; omega], by omega, fun s y' hs hy' => ?_, fun s z' hs hz' => ?_, ?_, HX5.out, HB5.out⟩
            ·rcases Nat.lt_or_ge s t with h | h
             ·exact HSH.out s y' h hy'
             ·obtain rfl : s = t := by omega
              obtain rfl := Option.some.inj (HY.out.symm.trans hy')
              exact HOKT.out
            ·rcases Nat.lt_or_ge s t with h | h
             ·exact HSN.out s z' h hz'
             ·obtain rfl : s = t := by omega
              obtain rfl := Option.some.inj (HZ.out.symm.trans hz')
              omega
            ·have h5 := HO5.out
             rw [hT, ← List.append_assoc, List.flatMap_append, List.length_append, ← HNX.out.1, ← HNX.out.2]
             exact h5
           case measure => have := HG3.out; omega
        ·have HSR2 := Lib.hid (fun d os => HSR.out d os false ⟨fun h => absurd h (by decide), fun h => absurd h hok⟩)
         have HNO := Lib.hid (show ¬ OkRows17 a m q next (l.map QP.abs) from fun h => hok ((h.row j p.abs HPA.out).share (QS.abs y) (List.mem_map_of_mem (List.mem_of_getElem? HY.out))))
         clear HSR hok
         go_upto_region 18 with fail
         refine wp_region_quiet_below (by kernel_rfl) (by kernel_rfl) ?_
         repeat (go_big_quiet_step (exact Calls.regrown_of (HSR2.out _ _)))
         refine wpQuiet_nil ?_
         rintro _ ⟨⟨dq, osq⟩, rfl⟩
         obtain ⟨w4, hw4⟩ : ∃ w4 : World, w4 = grow (redrawn wr dq) osq := ⟨_, rfl⟩
         have HB4 := Lib.hid (HBT.out.trans ((show Below wr.heap.size wr w4 by rw [hw4]; exact below_regrown wr dq osq).mono HBT.out.size))
         rw [show (grow (redrawn wr (Regrown.mk dq osq).d) (Regrown.mk dq osq).os) = w4 from hw4.symm]
         clear hw4 x2 x3 s1 s2 z0
         go_wp2_with fail
         go_ret
         exact ZaU HNO.out HB4.out
       ·obtain rfl : t = m := by omega
        have hkb := HN.out.1
        go_wp2_with fail
        go_roundg (l.length - (j + 1))
        case rel =>
         have hT : p.served.take t = p.served := by rw [← HLN.out.1, List.take_length]
         refine ⟨j + 1, rfl, by go_num, by omega, fun i z hi hz => ?_, ?_, HBT.out, ?_⟩
         ·rcases Nat.lt_or_ge i j with h | h
          ·exact HPRE.out i z h hz
          ·obtain rfl : i = j := by omega
           obtain rfl := Option.some.inj (HPA.out.symm.trans hz)
           refine ⟨HLN.out.2.2, congrArg Int.ofNat HLN.out.1, by show ((p.sh.map QS.abs).length : Int) = _; rw [List.length_map, HLN.out.2.1], fun b y hb hy => HNM.out b y hb hy, fun s hs => ?_, fun z hz => ?_⟩
           ·obtain ⟨y, hy, rfl⟩ := List.mem_map.1 hs
            obtain ⟨u, hu⟩ := List.getElem?_of_mem hy
            exact HSH.out u y (by have := (List.getElem?_eq_some_iff.1 hu).1; have := HLN.out.2.1; omega) hu
           ·obtain ⟨u, hu⟩ := List.getElem?_of_mem hz
            exact HSN.out u z (by have h1 := (List.getElem?_eq_some_iff.1 hu).1; have h2 := HLN.out.1; change u < p.served.length at h1; omega) hu
         ·rw [Zhe HPA.out]
          have h := HOT.out
          rw [hT] at h
          exact h
         ·rw [Zhe HPA.out, List.length_append, HKM.out, show p.abs.served.length = t from HLN.out.1, Nat.add_mul, Nat.one_mul]
        case measure => have := HG.out; omega
  ·obtain rfl : k = l.length := by omega
   obtain ⟨T, hT⟩ : ∃ T, T = allS ((l.map QP.abs).take l.length) := ⟨_, rfl⟩
   have HTA := Lib.hid (show T = allS (l.map QP.abs) by rw [hT, show (l.map QP.abs).take l.length = l.map QP.abs from List.take_of_length_le (by simp)])
   rw [← hT] at HO HKM
   have hTb : T.length ≤ 1000000 := by rw [HKM.out]; exact Nat.le_trans (Nat.mul_le_mul HN.out.1 HN.out.2.1) (by decide)
   have HROW := Lib.hid (show ∀ (i : Nat) z, (l.map QP.abs)[i]? = some z → OkRow17 m q next (l.map QP.abs) i z from fun i z hz => HPRE.out i z (by have := (List.getElem?_eq_some_iff.1 hz).1; rw [List.length_map] at this; exact this) hz)
   have hsl := Zbj HO.out
   obtain ⟨ta, tc, htv, -⟩ := hsl.form
   have HSL := Lib.hid (show SlAt wr (.slice ta T.length tc) T.length (T.flatMap encZ) by rw [← htv]; exact hsl)
   subst htv
   obtain ⟨w0, rfl⟩ : ∃ w0 : World, w0 = wr := ⟨_, rfl⟩
   clear hT hsl
   go_wp2_with fail
   go_loopg [16] T.length (fun g i w' => ∃ i' : Nat, g = T.length - i' ∧ i = .int .i64 i' ∧ i' ≤ T.length ∧ (∀ (s t : Nat) x y, s < t → t < i' → T[t]? = some x → T[s]? = some y → y ≠ x) ∧ Below w0.heap.size w0 w')
   case atStart => exact ⟨0, rfl, rfl, Nat.zero_le _, fun s t x y _ h => by omega, Below.refl _ _⟩
   case round =>
    obtain ⟨i, hg, rfl, hi, hne, hb⟩ := hrel
    have HG2 := Lib.hid hg
    have HNE := Lib.hid hne
    have HB2 := Lib.hid hb
    clear hg hne hb
    by_cases hlt : i < T.length
    ·obtain ⟨z, hz⟩ : ∃ z, T[i]? = some z := ⟨_, List.getElem?_eq_getElem hlt⟩
     have HZ := Lib.hid hz
     have hil : (i : Int) < (T.length : Int) := by omega
     clear hz
     go_wp2_with fail
     go_loopg [17] i (fun g j w' => ∃ j' : Nat, g = i - j' ∧ j = .int .i64 j' ∧ j' ≤ i ∧ (∀ (s : Nat) y, s < j' → T[s]? = some y → y ≠ z) ∧ Below w0.heap.size w0 w')
     case atStart => exact ⟨0, rfl, rfl, Nat.zero_le _, fun s y h => by omega, HB2.out⟩
     case round =>
      obtain ⟨j, hg, rfl, hj, hnz, hb⟩ := hrel
      have HG3 := Lib.hid hg
      have HNZ := Lib.hid hnz
      have HB3 := Lib.hid hb
      clear hg hnz hb
      by_cases hlj : j < i
      ·obtain ⟨y, hy⟩ : ∃ y, T[j]? = some y := ⟨_, List.getElem?_eq_getElem (by omega)⟩
       have HY := Lib.hid hy
       obtain ⟨g1, o1, hq1, hc1⟩ := (HSL.out.below HB3.out).cells ZaP (by decide) HZ.out
       subst hq1
       obtain ⟨g2, o2, hq2, hc2⟩ := (HSL.out.below HB3.out).cells ZaP (by decide) hy
       cases hq2
       have e1 := cell_regrown (show wr.cell? ⟨g1, o1 + i, none⟩ = some (.int .i64 z) by have := hc1 0 _ rfl; simpa using this)
       have e2 := cell_regrown (show wr.cell? ⟨g1, o1 + j, none⟩ = some (.int .i64 y) by have := hc2 0 _ rfl; simpa using this)
       have hji : (j : Int) < (i : Int) := by omega
       have hjl : (j : Int) < (T.length : Int) := by omega
       clear hy hc1 hc2
       rcases hzy : (z == y) with _ | _
       ·have HNEQ := Lib.hid (show y ≠ z from fun e => by subst e; simp at hzy)
        go_upto_region 27 with fail
        refine wp_region_quiet_below (by kernel_rfl) (by kernel_rfl) ?_
        repeat (go_big_quiet_step (fail))
        refine wpQuiet_nil ?_
        rintro _ ⟨⟨dq, osq⟩, rfl⟩
        obtain ⟨w4, hw4⟩ : ∃ w4 : World, w4 = grow (redrawn wr dq) osq := ⟨_, rfl⟩
        have HB4 := Lib.hid (HB3.out.trans ((show Below wr.heap.size wr w4 by rw [hw4]; exact below_regrown wr dq osq).mono HB3.out.size))
        rw [show (grow (redrawn wr (Regrown.mk dq osq).d) (Regrown.mk dq osq).os) = w4 from hw4.symm]
        clear hw4 e1 e2 hzy
        go_wp2_with fail
        go_roundg (i - (j + 1))
        case rel =>
         refine ⟨j + 1, rfl, by go_num, by omega, fun s y' hs hy' => ?_, HB4.out⟩
         rcases Nat.lt_or_ge s j with h | h
         ·exact HNZ.out s y' h hy'
         ·obtain rfl : s = j := by omega
          obtain rfl := Option.some.inj (HY.out.symm.trans hy')
          exact HNEQ.out
        case measure => have := HG3.out; omega
       ·have HNO := Lib.hid (show ¬ OkRows17 a m q next (l.map QP.abs) from fun h => by
         have h1 := h.once
         rw [← HTA.out] at h1
         obtain rfl : z = y := by simpa using hzy
         have := Znx h1 HZ.out HY.out
         omega)
        go_upto_region 27 with fail
        refine wp_region_quiet_below (by kernel_rfl) (by kernel_rfl) ?_
        repeat (go_big_quiet_step (fail))
        refine wpQuiet_nil ?_
        rintro _ ⟨⟨dq, osq⟩, rfl⟩
        obtain ⟨w4, hw4⟩ : ∃ w4 : World, w4 = grow (redrawn wr dq) osq := ⟨_, rfl⟩
        have HB4 := Lib.hid (HB3.out.trans ((show Below wr.heap.size wr w4 by rw [hw4]; exact below_regrown wr dq osq).mono HB3.out.size))
        rw [show (grow (redrawn wr (Regrown.mk dq osq).d) (Regrown.mk dq osq).os) = w4 from hw4.symm]
        clear hw4 e1 e2 hzy
        go_wp2_with fail
        go_ret
        exact ZaU HNO.out (HB.out.trans (HB4.out.mono HB.out.size))
      ·obtain rfl : j = i := by omega
       go_wp2_with fail
       go_roundg (T.length - (j + 1))
       case rel =>
        refine ⟨j + 1, rfl, by go_num, by omega, fun s t x y hst ht hx hy => ?_, HB3.out⟩
        rcases Nat.lt_or_ge t j with h | h
        ·exact HNE.out s t x y hst h hx hy
        ·obtain rfl : t = j := by omega
         obtain rfl := Option.some.inj (HZ.out.symm.trans hx)
         exact HNZ.out s y hst hy
       case measure => have := HG2.out; omega
    ·go_wp2_with fail
     go_ret
     refine ⟨⟨true, rfl, fun _ => ⟨by have := HN.out.2.2; rw [List.length_map]; omega, HROW.out, ?_⟩, fun _ => rfl⟩, HB.out.trans (HB2.out.mono HB.out.size)⟩
     rw [← HTA.out]
     exact Znw (fun s t x y hst hx hy => HNE.out s t x y hst (by have := (List.getElem?_eq_some_iff.1 hx).1; omega) hx hy)
theorem Zny (r : FRow) (vi : Value) : (Tryz.prog.info? 143).map (·.size) = some (#[.int .i64 r.id, .int .i64 r.wt, .int .i64 r.df, vi] : Array Value).size := by
 rw [show (#[.int .i64 r.id, .int .i64 r.wt, .int .i64 r.df, vi] : Array Value).size = 4 from rfl]
 kernel_rfl
set_option maxRecDepth 100000 in
set_option maxHeartbeats 2000000 in
theorem Zmh (r : FRow) (a : Option Addr) (n c : Nat) (w : World) : Calls Tryz.prog 80 #[.agg #[.int .i64 r.id, .int .i64 r.wt, .int .i64 r.df, .slice a n c]] w fun e w' => e = .returned (.agg #[.int .i64 r.id, .int .i64 r.wt, .int .i64 r.df, .slice a n c]) ∧ Below w.heap.size w w' := by
 go_enter Tryz.func80, Tryz.ntmps80
 go_upto_region 1 with fail
 obtain ⟨w1, hw1⟩ : ∃ w1 : World, w1 = w.alloc (.cells #[.int .i64 r.id, .int .i64 r.wt, .int .i64 r.df, .slice a n c] 157) := ⟨_, rfl⟩
 have hx1 : w1.heap[w.heap.size]? = some (.cells #[.int .i64 r.id, .int .i64 r.wt, .int .i64 r.df, .slice a n c] 157 (0, 0)) := by rw [hw1]; exact Zf
 have hz : w1.heap.size = w.heap.size + 1 := by rw [hw1]; simp
 have HB := Lib.hid (show Below w.heap.size w (w1.alloc (.cells #[.int .i64 r.id, .int .i64 r.wt, .int .i64 r.df, .slice a n c] 143)) by rw [hw1]; exact box_below.alloc (by simp) _)
 obtain ⟨xb, hxb⟩ : ∃ xb : Nat, xb = w.heap.size := ⟨_, rfl⟩
 rw [← hw1, ← hxb]
 rw [← hxb] at hx1 hz
 have lx : xb < w1.heap.size := by omega
 have k0 : w1.cell? ⟨xb, 0, none⟩ = some (.int .i64 r.id) := Za hx1 rfl
 have k1 : w1.cell? ⟨xb, 1, none⟩ = some (.int .i64 r.wt) := Za hx1 rfl
 have k2 : w1.cell? ⟨xb, 2, none⟩ = some (.int .i64 r.df) := Za hx1 rfl
 have k3 : w1.cell? ⟨xb, 3, none⟩ = some (.slice a n c) := Za hx1 rfl
 clear hw1 hxb hx1
 go_wp2_with fail
 exact bodyPost_ret (v := .agg #[.int .i64 r.id, .int .i64 r.wt, .int .i64 r.df, .slice a n c]) (ZhI Tryz.results80 rfl (show (w1.alloc _).heap[xb + 1]? = _ by rw [← hz]; exact Zf) Tryz.underlying143 rfl (Zny r (.slice a n c))) rfl ⟨rfl, HB.out⟩
structure TBx (w0 : World) (xb : Nat) (x : TRow) (li : List (FRow × Value)) (j : Nat) (wr : World) : Prop where
 cells : ∃ iv, wr.heap[xb]? = some (.cells #[.int .i64 x.id, .int .i64 x.wt, .int .i64 x.df, iv, .bool x.gv] 140 (0, 0)) ∧ wr.ownsRow (xb + 1) 143 4 iv (li.take j).length (Zt (li.take j))
 below : Below w0.heap.size w0 wr
 lo : w0.heap.size ≤ xb
section
variable {w0 wr w9 : World} {xb j : Nat} {x : TRow} {li : List (FRow × Value)} {p : FRow × Value} {iv v9 : Value} {o : Obj}
theorem TBx.on (h : TBx w0 xb x li j wr) (hb : Below wr.heap.size wr w9) : TBx w0 xb x li j w9 := by
 obtain ⟨⟨iv, h1, h2⟩, hB, hlo⟩ := h
 exact ⟨⟨iv, (hb.block _ (Zb h1)).trans h1, Zk h2 hb⟩, hB.trans (hb.mono hB.size), hlo⟩
theorem TBx.snoc (h : TBx w0 xb x li j wr) (hp : li[j]? = some p) (hx : wr.heap[xb]? = some (.cells #[.int .i64 x.id, .int .i64 x.wt, .int .i64 x.df, iv, .bool x.gv] 140 (0, 0))) (h2 : wr.ownsRow (xb + 1) 143 4 iv (li.take j).length (Zt (li.take j)))
 (ho9 : w9.ownsRow (xb + 1) 143 4 v9 ((li.take j).length + 1) (Zt (li.take j) ++ encRV p)) (hg : (wr.alloc o).grownBy w9 iv.ownBlock) : TBx w0 xb x li (j + 1) (w9.setCell ⟨xb, 3, none⟩ v9) := by
 have hxl := Zb hx
 have hlo := h.lo
 have hown : ∀ k, iv.ownBlock = some k → xb + 1 ≤ k := Zl h2
 have hx9 : w9.heap[xb]? = some (.cells #[.int .i64 x.id, .int .i64 x.wt, .int .i64 x.df, iv, .bool x.gv] 140 (0, 0)) := (hg.block xb (by simp; omega) (fun e => by have := hown xb e.symm; omega)).trans (Zi hx)
 have hF : Fp (fun k => w0.heap.size ≤ k) wr (w9.setCell ⟨xb, 3, none⟩ v9) := (((Fp.refl _ wr).alloc o).grown hg (fun k _ e => by have := hown k e; omega)).setCell (fun _ => hlo) _
 refine ⟨⟨v9, Ze hx9, ?_⟩, h.below.trans (hF.below h.below.size (fun k hk e => by omega)), hlo⟩
 have hT : li.take (j + 1) = li.take j ++ [p] := by rw [List.take_add_one, hp]; rfl
 rw [hT, List.length_append, ZaD]
 exact RowKit.ownsRow_setCell_below ho9 (by simp) _
end
structure TIn17 (base : Nat) (w wr : World) (ov : Value) (l : List TV) : Prop where
 own : wr.ownsRow base 140 5 ov l.length (ZbR l)
 inv : ∀ p ∈ l, wr.ownsRow base 143 4 p.2.1 p.2.2.length (Zt p.2.2) ∧ (∀ r ∈ p.2.2, ItsAt w r.2 r.1.its) ∧ p.2.2.map Prod.fst = p.1.rows
theorem TIn17.below {base : Nat} {w wr w' : World} {ov : Value} {l : List TV} (h : TIn17 base w wr ov l) (hb : Below wr.heap.size wr w') : TIn17 base w w' ov l := ⟨Zk h.own hb, fun p hp => ⟨Zk (h.inv p hp).1 hb, (h.inv p hp).2⟩⟩
theorem TIn17.base {b base : Nat} {w wr : World} {ov : Value} {l : List TV} (h : TIn17 base w wr ov l) (hb : b ≤ base) : TIn17 b w wr ov l := ⟨Zap h.own hb, fun p hp => ⟨Zap (h.inv p hp).1 hb, (h.inv p hp).2⟩⟩
theorem TIn17.from {base : Nat} {w w0 wr : World} {ov : Value} {l : List TV} (h : TIn17 base w0 wr ov l) (hi : ∀ p ∈ l, ∀ r ∈ p.2.2, ItsAt w r.2 r.1.its) : TIn17 base w wr ov l := ⟨h.own, fun p hp => ⟨(h.inv p hp).1, hi p hp, (h.inv p hp).2.2⟩⟩
theorem TIn17.grown {base b k sz : Nat} {e : TypeId} {w wr w9 : World} {ov v : Value} {l : List TV} {xs : List Value} (h : TIn17 base w wr ov l) (ho : wr.ownsRow b e sz v k xs) (h1 : e ≠ 140) (h2 : e ≠ 143) (hg : wr.grownBy w9 v.ownBlock) : TIn17 base w w9 ov l :=
 ⟨ZT h.own hg (ZG h.own ho (Ne.symm h1)), fun p hp => ⟨ZT (h.inv p hp).1 hg (ZG (h.inv p hp).1 ho (Ne.symm h2)), (h.inv p hp).2⟩⟩
theorem TIn17.rows {base : Nat} {w wr : World} {ov : Value} {l : List TV} (h : TIn17 base w wr ov l) (hb : Below w.heap.size w wr) : TRowsAt wr ov l := by
 obtain ⟨a, cap, rfl, hle, _, _, hc⟩ := ZC h.own
 exact ⟨⟨a, cap, rfl, hle, fun j u hu => by obtain ⟨g, ha, _, _, h0, _⟩ := hc j u hu; exact ⟨g, 0, ha, by rw [Nat.zero_add]; exact h0⟩⟩, fun p hp => ⟨ZbB (h.inv p hp).1 (fun r hr => ((h.inv p hp).2.1 r hr).below hb), (h.inv p hp).2.2⟩⟩
set_option maxRecDepth 100000 in
set_option maxHeartbeats 8000000 in
theorem ZhC (v : Value) (l : List DV) (w : World) (h : DRowsAt w v l) (hf : l.length ≤ 1000000) (hfs : ∀ p ∈ l, p.2.2.2.length ≤ 1000000) : Calls Tryz.prog 53 #[v] w fun e w' => ∃ v' l', e = .returned v' ∧ TIn17 w.heap.size w w' v' l' ∧ l'.map Prod.fst = l.map Prod.fst ∧ l'.map (fun p => p.2.2) = l.map (fun p => p.2.2.2) ∧ Below w.heap.size w w' := by
 have HR := Lib.hid h
 have HL := Lib.hid hf
 have HLS := Lib.hid hfs
 obtain ⟨a, cap, rfl, -⟩ := h.form
 clear h hf hfs
 go_enter Tryz.func53, Tryz.ntmps53
 go_wp2_with fail
 go_loopg [3, 4] l.length (fun g ov i wr => ∃ (k : Nat) (D : List TV), g = l.length - k ∧ i = .int .i64 k ∧ k ≤ l.length ∧ (D.map Prod.fst = (l.map Prod.fst).take k ∧ D.map (fun p => p.2.2) = (l.map (fun p => p.2.2.2)).take k) ∧ TIn17 w.heap.size w wr ov D ∧ Below w.heap.size w wr)
 case atStart => exact ⟨0, [], rfl, rfl, Nat.zero_le _, ⟨rfl, rfl⟩, ⟨Zal (Nat.le_refl _), fun p hp => by cases hp⟩, box_below⟩
 case round =>
  obtain ⟨k, D, hg, rfl, hk, hm, ho, hb⟩ := hrel
  have HG := Lib.hid hg
  have HM := Lib.hid hm
  have HO := Lib.hid ho
  have HB := Lib.hid hb
  clear hg ho hb hm
  by_cases hlt : k < l.length
  ·obtain ⟨⟨x, q0, vx, li⟩, hx⟩ : ∃ p, l[k]? = some p := ⟨_, List.getElem?_eq_getElem hlt⟩
   have hmem := List.mem_of_getElem? hx
   have HIN := Lib.hid (HR.out.inv _ hmem)
   have HFI := Lib.hid (HLS.out _ hmem)
   obtain ⟨ax, cx, hvx, -⟩ := (HR.out.inv _ hmem).rows.form
   simp only at hvx
   subst hvx
   obtain ⟨g, off, cap', hv, _, c0, c1, c2, c3, c4, c5⟩ := HR.out.at hx
   cases hv
   simp only at c0 c1 c2 c3 c4 c5
   have HC := Lib.hid (show ∀ w', Below w.heap.size w w' → w'.cell? ⟨g, off + k * 6 + 4, none⟩ = some (.slice ax li.length cx) from fun w' hb => Zc hb c4)
   have HXX := Lib.hid (show (l.map Prod.fst)[k]? = some x by rw [List.getElem?_map, hx]; rfl)
   have HXL := Lib.hid (show (l.map (fun p => p.2.2.2))[k]? = some li by rw [List.getElem?_map, hx]; rfl)
   have hkl : (k : Int) < (l.length : Int) := by omega
   have hll : D.length = k := by
    have h := congrArg List.length HM.out.1
    rw [List.length_map, List.length_take, List.length_map] at h
    omega
   have HLL := Lib.hid hll
   have hf := HL.out
   have gw : g < wr.heap.size := Nat.lt_of_lt_of_le (World.block_lt_of_cell? w _ c0) HB.out.size
   have d0 := Zc HB.out c0
   have d1 := Zc HB.out c1
   have d2 := Zc HB.out c2
   have d5 := Zc HB.out c5
   clear hx hmem c0 c1 c2 c3 c4 c5 hll
   go_upto_region 5 with fail
   go_cut [5] (fun bv wx => ∃ xb : Nat, bv = .pointer (some ⟨xb, 0, none⟩) ∧ TBx wr xb x li 0 wx)
   case first =>
    go_region
    all_goals
     clear d0 d1 d2 d5 gw
     go_wp2_with fail
     go_meet
     exact ⟨wr.heap.size, rfl, ⟨⟨.slice none 0 0, Zf, Za4 _ _ _ _⟩, ZO box_below 1, Nat.le_refl _⟩⟩
   case rest =>
    obtain ⟨xb, rfl, hst⟩ := hcut
    obtain ⟨w5, rfl⟩ : ∃ w5 : World, w5 = wr := ⟨_, rfl⟩
    have HST := Lib.hid hst
    clear hst d0 d1 d2 d5 gw
    go_wp2_with fail
    go_loopg [6] li.length (fun g i w' => ∃ j : Nat, g = li.length - j ∧ i = .int .i64 j ∧ j ≤ li.length ∧ TBx w5 xb x li j w')
    case atStart => exact ⟨0, rfl, rfl, Nat.zero_le _, HST.out⟩
    case round =>
     obtain ⟨j, hg, rfl, hj, hst⟩ := hrel
     have HG2 := Lib.hid hg
     have HST2 := Lib.hid hst
     have HBW := Lib.hid (HB.out.trans (hst.below.mono HB.out.size))
     clear hg hst
     have c4 := HC.out wr HBW.out
     by_cases hjl : j < li.length
     ·obtain ⟨⟨r, vr⟩, hr⟩ : ∃ p, li[j]? = some p := ⟨_, List.getElem?_eq_getElem hjl⟩
      have HRJ := Lib.hid hr
      obtain ⟨ai, ci, rfl⟩ : ∃ ai ci, vr = .slice ai r.its.length ci := ZN (HIN.out.rows.its _ (List.mem_of_getElem? hr))
      obtain ⟨gr, offr, capr, hv, _, e0, e1, e2, e3⟩ := (HIN.out.rows.below HBW.out).at hr
      cases hv
      simp only at e0 e1 e2 e3
      have hjl2 : (j : Int) < (li.length : Int) := by omega
      have hfi := HFI.out
      obtain ⟨iv, hx, hoi⟩ := HST2.out.cells
      have HX := Lib.hid hx
      have HOI := Lib.hid hoi
      have q3 : wr.cell? ⟨xb, 3, none⟩ = some iv := Za hx rfl
      have hbd : Below wr.heap.size wr wr.drew := ⟨rfl, rfl, rfl, Nat.le_refl _, fun _ _ => rfl⟩
      have HLX := Lib.hid (Zb hx)
      have htl : (li.take j).length = j := by rw [List.length_take]; omega
      obtain ⟨E, hE⟩ : ∃ E, E = li.take j := ⟨_, rfl⟩
      have HE := Lib.hid hE
      rw [← hE] at HOI htl
      have hEl : E.length < 1000001 := by omega
      obtain ⟨i1, hi0, hz0, hz1, hz2⟩ := info_parts ZgO
      clear hr hx hoi hE htl
      go_upto_region 9 with fail
      go_region_law (first
       | (go_simp; go_at_call 80; refine (Zmh r ai r.its.length ci _).mono ?_; rintro e w6 ⟨rfl, hb6'⟩; (have hb6 := Zr hbd hb6'); (have H6 := Lib.hid (HST2.out.on hb6)); (have hx6 := (hb6.block xb HLX.out).trans HX.out); (have HX6 := Lib.hid hx6); (have q6 : w6.cell? ⟨xb, 3, none⟩ = some iv := Za hx6 rfl); (have lx6 := Zb hx6); (have HB6 := Lib.hid hb6); clear hb6' hb6 hx6)
       | (refine step_append_lies _ (by rfl) _ _ _ (by rfl) (xb + 1) 143 i1 _ 4 48 Tryz.underlying138 hi0 hz0 hz1 hz2 rfl (by decide) iv E.length (Zt E) (by rfl) ((Zk HOI.out HB6.out).alloc _) ⟨w6.heap.size, 0, none⟩ 1 1 (encRV (r, .slice ai r.its.length ci)) (by rfl) (by rfl) (World.news_of_block (cs := #[.int .i64 r.id, .int .i64 r.wt, .int .i64 r.df, .slice ai r.its.length ci]) (t := 143) (fr := (0, 0)) (heap_alloc_new _ _)) (by simp [Value.oneCell', encRV]) (by omega) (by unfold maxLen; omega) (by omega) (by simp; omega) (w6.heap.size + 1) (by simp) ?_; intro gg gcap w9 hown9 hgrow hat hlt9; (have hx9 : w9.heap[xb]? = some (.cells #[.int .i64 x.id, .int .i64 x.wt, .int .i64 x.df, iv, .bool x.gv] 140 (0, 0)) := (hgrow.block xb (by simp; omega) (fun e => by have := Zl HOI.out xb e.symm; omega)).trans (Zi HX6.out)); (have k2 : w9.cell? ⟨xb, 3, none⟩ = some iv := Za hx9 rfl); (have f2 : w9.frozen? ⟨xb, 3, none⟩ = false := Zd hx9)))
      all_goals
       go_wp2_with fail
       go_roundg (li.length - (j + 1))
       case rel => exact ⟨j + 1, rfl, by go_num, by omega, H6.out.snoc HRJ.out HX6.out (by rw [← HE.out]; exact Zk HOI.out HB6.out) (by rw [← HE.out]; exact hown9) ⟨hgrow.os, hgrow.tape, hgrow.output, hgrow.size, hgrow.block⟩⟩
       case measure => have := HG2.out; omega
     ·obtain rfl : j = li.length := by omega
      obtain ⟨iv, hx, hoi⟩ := HST2.out.cells
      rw [List.take_length] at hoi
      obtain ⟨ia, ic, hiv, -⟩ := (Zbj hoi).form
      subst hiv
      have hlo := HST2.out.lo
      have hbw := HB.out.size
      have HO9 := Lib.hid (HO.out.below HST2.out.below)
      have HOI := Lib.hid (Zap (b := w.heap.size) hoi (by omega))
      have k0 : wr.cell? ⟨xb, 0, none⟩ = some (.int .i64 x.id) := Za hx rfl
      have k1 : wr.cell? ⟨xb, 1, none⟩ = some (.int .i64 x.wt) := Za hx rfl
      have k2 : wr.cell? ⟨xb, 2, none⟩ = some (.int .i64 x.df) := Za hx rfl
      have k3 : wr.cell? ⟨xb, 3, none⟩ = some (.slice ia li.length ic) := Za hx rfl
      have k4 : wr.cell? ⟨xb, 4, none⟩ = some (.bool x.gv) := Za hx rfl
      have hc1 := HBW.out.size
      have hdl := HLL.out
      have hc2 : D.length < 140737488355328 := by omega
      have hc3 : (D.length + 1) * 56 ≤ 140737488355328 := by omega
      clear hx hoi hlo hbw hdl
      go_wp2_with (at_builtin; refine Zv (us := #[.int .i64 x.id, .int .i64 x.wt, .int .i64 x.df, .slice ia li.length ic, .bool x.gv]) rfl _ _ 101 rfl w.heap.size _ 5 56 Tryz.underlying101 ZgV rfl (by decide) u3 D.length (ZbR D) rfl HO9.out.own rfl rfl (by simp [Value.oneCell']) ?c1 ?c2 ?c3 ?_; (case c1 => exact hc1); (case c2 => exact hc2); (case c3 => exact hc3); intro gg gcap w10 ho10 hg10 hat10)
      have HO10 := Lib.hid (show TIn17 w.heap.size w w10 (.slice (some ⟨gg, 0, none⟩) (D.length + 1) gcap) (D ++ [(x, .slice ia li.length ic, li)]) from by
       refine ⟨by rw [List.length_append, Zfk]; exact ho10, fun p hp => ?_⟩
       have hkp : ∀ {vv : Value} {n : Nat} {xs : List Value}, wr.ownsRow w.heap.size 143 4 vv n xs → w10.ownsRow w.heap.size 143 4 vv n xs := fun h => ZT h hg10 (ZG h HO9.out.own (by decide))
       rcases List.mem_append.1 hp with hp | hp
       ·exact ⟨hkp (HO9.out.inv p hp).1, (HO9.out.inv p hp).2⟩
       ·rw [List.mem_singleton] at hp
        subst hp
        exact ⟨hkp HOI.out, fun r hr => HIN.out.rows.its r hr, HIN.out.same⟩)
      have HB10 := Lib.hid (HBW.out.trans ⟨hg10.os, hg10.tape, hg10.output, hg10.size, fun j hj => hg10.block j (by omega) (fun e => by have := Zl HO9.out.own j e.symm; omega)⟩ : Below w.heap.size w w10)
      clear ho10 hg10 hat10 k0 k1 k2 k3 k4 hc1 hc2 hc3 c4
      go_wp2_with fail
      go_roundg (l.length - (k + 1))
      case rel =>
       refine ⟨k + 1, _, rfl, by go_num, by omega, ⟨?_, ?_⟩, HO10.out, HB10.out⟩
       ·rw [List.map_append, HM.out.1, List.take_add_one, HXX.out]
        rfl
       ·rw [List.map_append, HM.out.2, List.take_add_one, HXL.out]
        rfl
      case measure => have := HG.out; omega
  ·have HK := Lib.hid (show D.map Prod.fst = l.map Prod.fst ∧ D.map (fun p => p.2.2) = l.map (fun p => p.2.2.2) from ⟨by rw [HM.out.1]; exact List.take_of_length_le (by rw [List.length_map]; omega), by rw [HM.out.2]; exact List.take_of_length_le (by rw [List.length_map]; omega)⟩)
   go_wp2_with fail
   go_ret
   exact ⟨_, D, rfl, HO.out, HK.out.1, HK.out.2, HB.out⟩
end Go.Proofs.YtdbjihkgafhakaaGreatDoor
