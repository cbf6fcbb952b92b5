/-
 ref15 (flows), inside a tenant's row: printed by refb_gen.py out of the walks of a ring of its own.
 ref15 (flows): Same of two lists that are the same: the walk.
-/
import Derived.Test.YtdbjihkgafhakaaGreatDoorSl07
import Derived.Deep.DeepCutAuto
import Derived.BigRegion
import Derived.Lib.QuietBelow
import Derived.BigQuiet
namespace Go.Proofs.YtdbjihkgafhakaaGreatDoor
open Go.RowKit
variable {G : Nat → Prop} {ro0 ro1 ro2 : Value}
structure RefBt (G : Nat → Prop) (ro0 ro1 ro2 : Value) (w : World) (b : Nat) (q : Int) (gv : Bool) (v : Value) (l : List (FRow × Value)) : Prop where
 head : w.heap[b]? = some (.cells #[ro0, ro1, ro2, .int .i64 q, v, .bool gv] 106 (0, 0))
 rows : RowsAt w v l
 vg : l ≠ [] → InG G w v
 ig : ∀ p ∈ l, InG G w p.2
 nb : ¬ G b
 up : ∀ k, w.heap.size ≤ k → G k
 few : l.length ≤ 1000000
 fews : ∀ p ∈ l, p.1.its.length ≤ 1000000
theorem RefBt.below {w w' : World} {b : Nat} {q : Int} {gv : Bool} {v : Value} {l : List (FRow × Value)} (h : RefBt G ro0 ro1 ro2 w b q gv v l) (hb : Below w.heap.size w w') : RefBt G ro0 ro1 ro2 w' b q gv v l :=
 ⟨(hb.block b (Zb h.head)).trans h.head, h.rows.below hb, fun hl => (h.vg hl).grow hb.size, fun p hp => (h.ig p hp).grow hb.size, h.nb, fun k hk => h.up k (Nat.le_trans hb.size hk), h.few, h.fews⟩
theorem RefBt.nv {w : World} {b : Nat} {q : Int} {gv : Bool} {v : Value} {l : List (FRow × Value)} (h : RefBt G ro0 ro1 ro2 w b q gv v l) (hl : l ≠ []) : v.ownBlock ≠ some b := (h.vg hl).not h.nb
theorem RefBt.ni {w : World} {b : Nat} {q : Int} {gv : Bool} {v : Value} {l : List (FRow × Value)} (h : RefBt G ro0 ro1 ro2 w b q gv v l) : ∀ p ∈ l, p.2.ownBlock ≠ some b := fun p hp => (h.ig p hp).not h.nb
theorem RefBt.fp {S : Nat → Prop} {w w' : World} {b : Nat} {q : Int} {gv : Bool} {v : Value} {l : List (FRow × Value)} (h : RefBt G ro0 ro1 ro2 w b q gv v l) (hF : Fp S w w') (h0 : ¬ S b) (hS : ∀ k, v.ownBlock = some k → ¬ S k) (hI : ∀ p ∈ l, ∀ k, p.2.ownBlock = some k → ¬ S k) : RefBt G ro0 ro1 ro2 w' b q gv v l :=
 ⟨hF.heap h.head h0, h.rows.fp hF hS hI, fun hl => (h.vg hl).grow hF.size, fun p hp => (h.ig p hp).grow hF.size, h.nb, fun k hk => h.up k (Nat.le_trans hF.size hk), h.few, h.fews⟩
def Zg8 (G : Nat → Prop) (ro0 ro1 ro2 : Value) (b : Nat) (q : Int) (s : Bool × List (FRow × Value)) (w : World) (e : Ending) (w' : World) : Prop := e = .returned (.tuple #[]) ∧ Fp (fun j => j = b) w w' ∧ ∃ v', RefBt G ro0 ro1 ro2 w' b q s.1 v' s.2
theorem Zdh {b k base : Nat} {q : Int} {gv : Bool} {v vx vo : Value} {l : List (FRow × Value)} {x : FRow} {w wr w3 : World} (hR : RefBt G ro0 ro1 ro2 w b q gv v l) (hB : Below w.heap.size w wr) (hx : ItsAt w vx x.its) (hxb : InG G w vx) (hxf : x.its.length ≤ 1000000)
 (ho : wr.ownsRow base 157 4 vo (withV k (x, vx) gv l).2.length (Zt (withV k (x, vx) gv l).2)) (hbase : w.heap.size ≤ base) (hF : Fp (fun j => j = b) wr w3) (hh : w3.heap[b]? = some (.cells #[ro0, ro1, ro2, .int .i64 q, vo, .bool (withV k (x, vx) gv l).1] 106 (0, 0))) :
 Zg8 G ro0 ro1 ro2 b q (withV k (x, vx) gv l) w (.returned (.tuple #[])) w3 := by
 have hbw := Zb hR.head
 have hsz := Nat.le_trans hB.size hF.size
 have hvg : InG G w3 vo := (Zb0 ho (fun k hk => hR.up k (Nat.le_trans hbase hk))).grow hF.size
 have hig : ∀ p ∈ (withV k (x, vx) gv l).2, InG G w3 p.2 := fun p hp => by
  rcases ZbW hp with h | rfl
  ·exact (hR.ig p h).grow hsz
  ·exact hxb.grow hsz
 have hvo : vo.ownBlock ≠ some b := hvg.not hR.nb
 have hib : ∀ p ∈ (withV k (x, vx) gv l).2, p.2.ownBlock ≠ some b := fun p hp => (hig p hp).not hR.nb
 refine ⟨rfl, (Fp.of_below hB).trans hF (fun _ _ h => h), vo, ⟨hh, ?_, fun _ => hvg, hig, hR.nb, fun k hk => hR.up k (Nat.le_trans hsz hk), Nat.le_trans ZhY hR.few, fun p hp => ?_⟩⟩
 ·refine (ZbB ho (fun p hp => ?_)).fp hF (fun j hj e => hvo (e ▸ hj)) (fun p hp j hj e => hib p hp (e ▸ hj))
  rcases ZbW hp with h | rfl
  ·exact (hR.rows.its p h).below hB
  ·exact hx.below hB
 ·rcases ZbW hp with h | rfl
  ·exact hR.fews p h
  ·exact hxf
set_option maxRecDepth 100000 in
set_option maxHeartbeats 4000000 in
theorem ZeC (b : Nat) (q : Int) (gv : Bool) (v : Value) (l : List (FRow × Value)) (k : Nat) (x : FRow) (vx : Value) (w : World) (h : RefBt G ro0 ro1 ro2 w b q gv v l) (hk : k < l.length) (hx : ItsAt w vx x.its) (hxb : InG G w vx) (hxf : x.its.length ≤ 1000000) :
 Calls Tryz.prog 125 #[.pointer (some ⟨b, 3, none⟩), .int .i64 k, .agg #[.int .i64 x.id, .int .i64 x.wt, .int .i64 x.df, vx]] w (Zg8 G ro0 ro1 ro2 b q (withV k (x, vx) gv l) w) := by
 have HX := Lib.hid hx
 have HXB := Lib.hid hxb
 have HXF := Lib.hid hxf
 obtain ⟨xa, xc, rfl⟩ := ZN hx
 have HR := Lib.hid (h.below (box_below (o := .cells #[.int .i64 x.id, .int .i64 x.wt, .int .i64 x.df, .slice xa x.its.length xc] 157)))
 have HR0 := Lib.hid h
 have hbw := Zb h.head
 obtain ⟨a, cap, rfl, -⟩ := h.rows.form
 have HF := Lib.hid h.few
 have HK := Lib.hid hk
 clear h hx hxb hxf hk
 go_enter Tryz.func125, Tryz.ntmps125
 go_wp2_with fail
 obtain ⟨w1, hw1⟩ : ∃ w1 : World, w1 = w.alloc (.cells #[.int .i64 x.id, .int .i64 x.wt, .int .i64 x.df, .slice xa x.its.length xc] 157) := ⟨_, rfl⟩
 have hz1 : w1.heap.size = w.heap.size + 1 := by rw [hw1]; simp
 rw [← hw1] at HR ⊢
 have HXC := Lib.hid (show w1.heap[w.heap.size]? = some (.cells #[.int .i64 x.id, .int .i64 x.wt, .int .i64 x.df, .slice xa x.its.length xc] 157 (0, 0)) by rw [hw1]; exact Zf)
 have HB1 := Lib.hid (show Below w.heap.size w w1 by rw [hw1]; exact box_below)
 have HST := Lib.hid (show (w1.alloc (.cells #[] 157)).ownsRow w1.heap.size 157 4 (.slice (some ⟨w1.heap.size, 0, none⟩) 0 0) 0 [] from Zal (Nat.le_refl _))
 have HZ1 := Lib.hid hz1
 rw [← hz1]
 clear hw1 hz1
 go_loopg [7, 6] l.length (fun g i ov wr => ∃ m : Nat, g = l.length - m ∧ i = .int .i64 m ∧ m ≤ l.length ∧ wr.ownsRow w1.heap.size 157 4 ov (ZK k (x, .slice xa x.its.length xc) l m).length (Zt (ZK k (x, .slice xa x.its.length xc) l m)) ∧ Below w1.heap.size w1 wr)
 case atStart => exact ⟨0, rfl, rfl, Nat.zero_le _, by unfold ZK; rw [if_pos (Nat.zero_le _)]; exact HST.out, box_below⟩
 case round =>
  obtain ⟨m, hg, rfl, hm, ho, hb⟩ := hrel
  have HG := Lib.hid hg
  have HO := Lib.hid ho
  have HB := Lib.hid hb
  clear hg ho hb
  have hh := (HB.out.block b (Zb HR.out.head)).trans HR.out.head
  have b1 : wr.cell? ⟨b, 4, none⟩ = some (.slice a l.length cap) := Za hh rfl
  have HH := Lib.hid hh
  have hxc := (HB.out.block w.heap.size (Zb HXC.out)).trans HXC.out
  have HXC2 := Lib.hid hxc
  have hlen := ZgR (k := k) (i := m) (p := (x, .slice xa x.its.length xc)) (l := l)
  have hf := HF.out
  have hc1 : w1.heap.size ≤ wr.heap.size := HB.out.size
  have hc2 : (ZK k (x, .slice xa x.its.length xc) l m).length < 140737488355328 := by omega
  have hc3 : ((ZK k (x, .slice xa x.its.length xc) l m).length + 1) * 48 ≤ 140737488355328 := by omega
  clear hh hxc hlen
  by_cases hlt : m < l.length
  ·have hml : (m : Int) < (l.length : Int) := by omega
   obtain ⟨p, hp⟩ : ∃ p, l[m]? = some p := ⟨_, List.getElem?_eq_getElem hlt⟩
   by_cases hmk : m = k
   ·have hne : ((m : Int) != (k : Int)) = false := by simp [hmk]
    have HBS := Lib.hid (show ZK k (x, .slice xa x.its.length xc) l (m + 1) = ZK k (x, .slice xa x.its.length xc) l m ++ (if x.its = [] then [] else [(x, .slice xa x.its.length xc)]) by rw [hmk]; exact Zf1 HK.out)
    have x0 : wr.cell? ⟨w.heap.size, 0, none⟩ = some (.int .i64 x.id) := Za HXC2.out rfl
    have x1 : wr.cell? ⟨w.heap.size, 1, none⟩ = some (.int .i64 x.wt) := Za HXC2.out rfl
    have x2 : wr.cell? ⟨w.heap.size, 2, none⟩ = some (.int .i64 x.df) := Za HXC2.out rfl
    have x3 : wr.cell? ⟨w.heap.size, 3, none⟩ = some (.slice xa x.its.length xc) := Za HXC2.out rfl
    obtain ⟨D, hD⟩ : ∃ D, D = ZK k (x, .slice xa x.its.length xc) l m := ⟨_, rfl⟩
    rw [← hD] at hc2 hc3 HO HBS
    clear hp hmk hD
    by_cases hxe : x.its = []
    ·have hgt : ¬ (0 : Int) < (x.its.length : Int) := by rw [hxe]; simp
     have HBS2 := Lib.hid (show ZK k (x, .slice xa x.its.length xc) l (m + 1) = D by rw [HBS.out, if_pos hxe, List.append_nil])
     clear hxe
     go_wp2_with fail
     go_roundg (l.length - (m + 1))
     case rel => exact ⟨m + 1, rfl, by go_num, by omega, by rw [HBS2.out]; exact HO.out, HB.out⟩
     case measure => have := HG.out; omega
    ·have hgt : (0 : Int) < (x.its.length : Int) := by have := List.length_pos_iff.2 hxe; omega
     have HBS2 := Lib.hid (show ZK k (x, .slice xa x.its.length xc) l (m + 1) = D ++ [(x, .slice xa x.its.length xc)] by rw [HBS.out, if_neg hxe])
     clear hxe
     go_wp2_with (at_builtin; refine Zv (us := #[.int .i64 x.id, .int .i64 x.wt, .int .i64 x.df, .slice xa x.its.length xc]) rfl _ _ 102 rfl w1.heap.size _ 4 48 Tryz.underlying102 Za8 rfl (by decide) u6 D.length (Zt D) rfl HO.out rfl rfl (by simp [Value.oneCell']) ?c1 ?c2 ?c3 ?_; (case c1 => exact hc1); (case c2 => exact hc2); (case c3 => exact hc3); intro gg gcap w3 ho3 hg3 hat3)
     have HO3 := Lib.hid ho3
     have HB3 := Lib.hid (HB.out.trans ⟨hg3.os, hg3.tape, hg3.output, hg3.size, fun j hj => hg3.block j (by omega) (fun e => by have := Zl HO.out j e.symm; omega)⟩ : Below w1.heap.size w1 w3)
     clear ho3 hg3 hat3
     go_wp2_with fail
     go_roundg (l.length - (m + 1))
     case rel => exact ⟨m + 1, rfl, by go_num, by omega, by rw [HBS2.out, List.length_append, ZaD]; exact HO3.out, HB3.out⟩
     case measure => have := HG.out; omega
   ·have hne : ((m : Int) != (k : Int)) = true := by simp; omega
    have HBS := Lib.hid (Zff (p := (x, .slice xa x.its.length xc)) hp hmk)
    obtain ⟨g, off, cap', hv, _, c0, c1, c2, c3⟩ := (HR.out.rows.below (HB.out.mono (Nat.le_refl _))).at hp
    cases hv
    obtain ⟨pa, pc, hpv⟩ := ZN (HR.out.rows.its p (List.mem_of_getElem? hp))
    rw [hpv] at c3
    have HPV := Lib.hid hpv
    obtain ⟨D, hD⟩ : ∃ D, D = ZK k (x, .slice xa x.its.length xc) l m := ⟨_, rfl⟩
    rw [← hD] at hc2 hc3 HO HBS
    clear hp hmk hD hpv
    go_wp2_with (at_builtin; refine Zv (us := #[.int .i64 p.1.id, .int .i64 p.1.wt, .int .i64 p.1.df, .slice pa p.1.its.length pc]) rfl _ _ 102 rfl w1.heap.size _ 4 48 Tryz.underlying102 Za8 rfl (by decide) u6 D.length (Zt D) rfl HO.out rfl rfl (by simp [Value.oneCell']) ?c1 ?c2 ?c3 ?_; (case c1 => exact hc1); (case c2 => exact hc2); (case c3 => exact hc3); intro gg gcap w3 ho3 hg3 hat3)
    have HO3 := Lib.hid ho3
    have HB3 := Lib.hid (HB.out.trans ⟨hg3.os, hg3.tape, hg3.output, hg3.size, fun j hj => hg3.block j (by omega) (fun e => by have := Zl HO.out j e.symm; omega)⟩ : Below w1.heap.size w1 w3)
    clear ho3 hg3 hat3
    go_wp2_with fail
    go_roundg (l.length - (m + 1))
    case rel => exact ⟨m + 1, rfl, by go_num, by omega, by rw [HBS.out, List.length_append, ZaD, show encRV p = [.int .i64 p.1.id, .int .i64 p.1.wt, .int .i64 p.1.df, .slice pa p.1.its.length pc] by unfold encRV; rw [HPV.out]]; exact HO3.out, HB3.out⟩
    case measure => have := HG.out; omega
  ·obtain rfl : m = l.length := by omega
   obtain ⟨ua, uc, hu, hul, -⟩ := ZC HO.out
   have HW := Lib.hid (show wr.ownsRow w1.heap.size 157 4 u6 (withV k (x, .slice xa x.its.length xc) gv l).2.length (Zt (withV k (x, .slice xa x.its.length xc) gv l).2) by rw [← ZgQ HK.out]; exact HO.out)
   obtain ⟨n, hn⟩ : ∃ n, n = (ZK k (x, .slice xa x.its.length xc) l l.length).length := ⟨_, rfl⟩
   rw [← hn] at hu
   subst hu
   have HBB := Lib.hid (HB1.out.trans (HB.out.mono HB1.out.size) : Below w.heap.size w wr)
   have x3 : wr.cell? ⟨w.heap.size, 3, none⟩ = some (.slice xa x.its.length xc) := Za HXC2.out rfl
   have b2 : wr.cell? ⟨b, 5, none⟩ = some (.bool gv) := Za HH.out rfl
   have f1 : wr.frozen? ⟨b, 4, none⟩ = false := Zd HH.out
   have f2 : wr.frozen? ⟨b, 5, none⟩ = false := Zd HH.out
   clear hn hul hc1 hc2 hc3
   by_cases hc : k = 0 ∧ x.its = []
   ·have hk0 : ((k : Int) == 0) = true := by simp [hc.1]
    have hx0 : ((x.its.length : Int) == 0) = true := by simp [hc.2]
    have HG1 := Lib.hid (show (withV k (x, .slice xa x.its.length xc) gv l).1 = false by unfold withV; rw [if_pos hc.2, if_pos hc.1])
    clear hc
    go_upto_region 11 with fail
    obtain ⟨w2, hw2⟩ : ∃ w2 : World, w2 = wr.setCell ⟨b, 5, none⟩ (.bool false) := ⟨_, rfl⟩
    have hh2 : w2.heap[b]? = some (.cells #[ro0, ro1, ro2, .int .i64 q, .slice a l.length cap, .bool false] 106 (0, 0)) := by rw [hw2]; exact Ze HH.out
    have HF2 := Lib.hid (show Fp (fun j => j = b) wr w2 by rw [hw2]; exact (Fp.refl (fun j => j = b) wr).setCell (p := ⟨b, 5, none⟩) (fun _ => rfl) _)
    rw [← hw2]
    clear hw2 b1 b2 f1 f2 x3
    have HH2 := Lib.hid hh2
    have b1 : w2.cell? ⟨b, 4, none⟩ = some (.slice a l.length cap) := Za hh2 rfl
    have f1 : w2.frozen? ⟨b, 4, none⟩ = false := Zd hh2
    clear hh2
    go_wp2_with fail
    go_end0
    exact Zdh HR0.out HBB.out HX.out HXB.out HXF.out HW.out (by have := HZ1.out; omega) (HF2.out.setCell (p := ⟨b, 4, none⟩) (fun _ => rfl) _) (by rw [HG1.out]; exact Ze HH2.out)
   ·have HG1 := Lib.hid (show (withV k (x, .slice xa x.its.length xc) gv l).1 = gv by
     unfold withV
     by_cases h1 : x.its = []
     ·rw [if_pos h1]
      exact if_neg (fun e => hc ⟨e, h1⟩)
     ·rw [if_neg h1])
    rcases hk0 : ((k : Int) == 0) with _ | _
    ·clear hc
     go_wp2_with fail
     go_end0
     exact Zdh HR0.out HBB.out HX.out HXB.out HXF.out HW.out (by have := HZ1.out; omega) ((Fp.refl (fun j => j = b) wr).setCell (p := ⟨b, 4, none⟩) (fun _ => rfl) _) (by rw [HG1.out]; exact Ze HH.out)
    ·have hx0 : ((x.its.length : Int) == 0) = false := by
      rw [beq_eq_false_iff_ne]
      intro e
      exact hc ⟨by simpa using hk0, List.length_eq_zero_iff.1 (by omega)⟩
     clear hc
     go_wp2_with fail
     go_end0
     exact Zdh HR0.out HBB.out HX.out HXB.out HXF.out HW.out (by have := HZ1.out; omega) ((Fp.refl (fun j => j = b) wr).setCell (p := ⟨b, 4, none⟩) (fun _ => rfl) _) (by rw [HG1.out]; exact Ze HH.out)
end Go.Proofs.YtdbjihkgafhakaaGreatDoor
/-
 ref15 (flows), inside a tenant's row: printed by refb_gen.py out of the walks of a ring of its own.
-/
namespace Go.Proofs.YtdbjihkgafhakaaGreatDoor
open Go.RowKit
variable {G : Nat → Prop} {ro0 ro1 ro2 : Value}
structure PStateB (G : Nat → Prop) (ro0 ro1 ro2 : Value) (b : Nat) (q : Int) (gv0 : Bool) (rows0 : List FRow) (w : World) (g : Nat) (gv : Bool) (v : Value) (l : List (FRow × Value)) (wr : World) : Prop where
 less : g = Zac gv ((l.map Prod.fst).map ndOf)
 ref : RefBt G ro0 ro1 ro2 wr b q gv v l
 ok : RowsOk gv (l.map Prod.fst)
 same : ∀ l2, PicksR q gv (l.map Prod.fst) l2 → PicksR q gv0 rows0 l2
 fp : Fp (fun j => j = b) w wr
def ZnZ (G : Nat → Prop) (ro0 ro1 ro2 : Value) (b : Nat) (q : Int) (gv : Bool) (rows : List FRow) (w : World) (e : Ending) (w' : World) : Prop :=
 e = .returned (.bool true) ∧ ∃ v' l', RefBt G ro0 ro1 ro2 w' b q true v' l' ∧ PicksR q gv rows (l'.map Prod.fst) ∧ Fp (fun j => j = b) w w'
theorem ZbL {w4 wa : World} {b : Nat} {q : Int} {gv : Bool} {v2 v3 : Value} {p : FRow × Value} {r : List (FRow × Value)} (hR : RefBt G ro0 ro1 ro2 w4 b q gv v2 (p :: r)) (hL : Laid2 157 4 w4 v3 (r.length + 1) (Zt r ++ encRV p) wa) :
 RefBt G ro0 ro1 ro2 (wa.setCell ⟨b, 4, none⟩ v3) b q gv v3 (r ++ [p]) ∧ Fp (fun j => j = b) w4 (wa.setCell ⟨b, 4, none⟩ v3) := by
 have hbw := Zb hR.head
 have hF : Fp (fun j => j = b) wa (wa.setCell ⟨b, 4, none⟩ v3) := (Fp.refl (fun j => j = b) wa).setCell (p := ⟨b, 4, none⟩) (fun _ => rfl) _
 have hsz := Nat.le_trans hL.below.size hF.size
 have hvg : InG G (wa.setCell ⟨b, 4, none⟩ v3) v3 := (Zb0 hL.own (fun k hk => hR.up k hk)).grow hF.size
 have hv3 : v3.ownBlock ≠ some b := hvg.not hR.nb
 have hm : ∀ y ∈ r ++ [p], y ∈ p :: r := fun y hy => by
  rcases List.mem_append.1 hy with hy | hy
  ·exact List.mem_cons_of_mem _ hy
  ·rw [List.mem_singleton] at hy
   subst hy
   exact List.mem_cons_self
 refine ⟨⟨Ze ((hL.below.block b hbw).trans hR.head), ?_, fun _ => hvg, fun y hy => (hR.ig y (hm y hy)).grow hsz, hR.nb, fun k hk => hR.up k (Nat.le_trans hsz hk), by have := hR.few; simp at this ⊢; omega, fun y hy => hR.fews y (hm y hy)⟩, (Fp.of_below hL.below).trans hF (fun _ _ h => h)⟩
 refine (ZbB (l := r ++ [p]) (by rw [List.length_append, ZaD]; exact hL.own) (fun y hy => (hR.rows.its y (hm y hy)).below hL.below)).fp hF (fun j hj e => hv3 (e ▸ hj)) (fun y hy j hj e => hR.ni y (hm y hy) (e ▸ hj))
theorem Zgj {w : World} {b : Nat} {q : Int} {gv : Bool} {v : Value} {l : List (FRow × Value)} (h : RefBt G ro0 ro1 ro2 w b q gv v l) (g' : Bool) : RefBt G ro0 ro1 ro2 (w.setCell ⟨b, 5, none⟩ (.bool g')) b q g' v l := by
 have hF : Fp (fun j => j = b) w (w.setCell ⟨b, 5, none⟩ (.bool g')) := (Fp.refl (fun j => j = b) w).setCell (p := ⟨b, 5, none⟩) (fun _ => rfl) _
 exact ⟨Ze h.head, h.rows.fp' hF (fun hl j hj e => h.nv hl (e ▸ hj)) (fun p hp j hj e => h.ni p hp (e ▸ hj)), fun hl => (h.vg hl).grow hF.size, fun p hp => (h.ig p hp).grow hF.size, h.nb, fun k hk => h.up k (Nat.le_trans hF.size hk), h.few, h.fews⟩
set_option maxRecDepth 100000 in
set_option maxHeartbeats 8000000 in
theorem Zd9 (b : Nat) (q : Int) (gv : Bool) (v : Value) (l : List (FRow × Value)) (w : World) (h : RefBt G ro0 ro1 ro2 w b q gv v l) (hne : l ≠ []) (hq1 : 1 ≤ q) (hq : q ≤ 64) (hok : RowsOk gv (l.map Prod.fst)) :
 Calls Tryz.prog 128 #[.pointer (some ⟨b, 3, none⟩)] w (ZnZ G ro0 ro1 ro2 b q gv (l.map Prod.fst) w) := by
 have HST := Lib.hid (show PStateB G ro0 ro1 ro2 b q gv (l.map Prod.fst) w (Zac gv ((l.map Prod.fst).map ndOf)) gv v l w from ⟨rfl, h, hok, fun _ h => h, Fp.refl _ _⟩)
 have HQ1 := Lib.hid hq1
 have HQ := Lib.hid hq
 obtain ⟨a, cap, rfl, -⟩ := h.rows.form
 have b1 : w.cell? ⟨b, 4, none⟩ = some (.slice a l.length cap) := Za h.head rfl
 have hz : ((l.length : Int) == 0) = false := by
  rw [beq_eq_false_iff_ne]
  have := List.length_pos_iff.2 hne
  omega
 have HNE := Lib.hid hne
 clear h hok hq1 hq hne
 go_enter Tryz.func128, Tryz.ntmps128
 go_wp2_with fail
 go_loopg [] (Zac gv ((l.map Prod.fst).map ndOf)) (fun g wr => ∃ gv' v' l', l' ≠ [] ∧ PStateB G ro0 ro1 ro2 b q gv (l.map Prod.fst) w g gv' v' l' wr)
 case atStart => exact ⟨gv, _, l, HNE.out, HST.out⟩
 case round =>
  obtain ⟨gv', v', l', hne', hS⟩ := hrel
  obtain ⟨p, r, rfl⟩ : ∃ p r, l' = p :: r := by
   cases l' with
   | nil => exact absurd rfl hne'
   | cons p r => exact ⟨p, r, rfl⟩
  have HS := Lib.hid hS
  clear hS hne' b1 hz
  obtain ⟨gb, off, cap', hv, hcap, c0, c1, c2, c3⟩ := HS.out.ref.rows.at (k := 0) (p := p) rfl
  obtain ⟨pa, pc, hpv⟩ := ZN (HS.out.ref.rows.its p List.mem_cons_self)
  have HV := Lib.hid hv
  have HPV := Lib.hid hpv
  rw [hpv] at c3
  simp only [Nat.zero_mul, Nat.add_zero] at c0 c1 c2 c3
  have b1 : wr.cell? ⟨b, 4, none⟩ = some (.slice (some ⟨gb, off, none⟩) (r.length + 1) cap') := by rw [← List.length_cons (a := p), ← hv]; exact Za HS.out.ref.head rfl
  have b2 : wr.cell? ⟨b, 5, none⟩ = some (.bool gv') := Za HS.out.ref.head rfl
  clear hv hpv
  go_upto_region 4 with fail
  obtain ⟨w1, hw1⟩ : ∃ w1 : World, w1 = wr.alloc (.cells #[.int .i64 p.1.id, .int .i64 p.1.wt, .int .i64 p.1.df, .slice pa p.1.its.length pc] 157) := ⟨_, rfl⟩
  obtain ⟨bx, hbx⟩ : ∃ bx : Nat, bx = wr.heap.size := ⟨_, rfl⟩
  rw [← hw1, ← hbx]
  have HX1 := Lib.hid (show w1.heap[bx]? = some (.cells #[.int .i64 p.1.id, .int .i64 p.1.wt, .int .i64 p.1.df, .slice pa p.1.its.length pc] 157 (0, 0)) by rw [hw1, hbx]; exact Zf)
  have HR1 := Lib.hid (show RefBt G ro0 ro1 ro2 w1 b q gv' v' (p :: r) by rw [hw1]; exact HS.out.ref.below box_below)
  have HF1 := Lib.hid (show Fp (fun j => j = b) w w1 by rw [hw1]; exact HS.out.fp.alloc _)
  have HBX := Lib.hid (show bx ≠ b by have := Zb HS.out.ref.head; omega)
  have hbxw : w.heap.size ≤ bx := by rw [hbx]; exact HS.out.fp.size
  have HXV := Lib.hid (show ∀ j, v'.ownBlock = some j → ¬ j = bx from fun j hj e => by rw [hbx] at e; have := Zgw HS.out.ref.rows.rows (by simp) j hj; omega)
  have HXI := Lib.hid (show ∀ p' ∈ p :: r, ∀ j, p'.2.ownBlock = some j → ¬ j = bx from fun p' hp' j hj e => by
   rw [hbx] at e
   have h1 := HS.out.ok.full p'.1 (List.mem_map_of_mem hp')
   obtain ⟨y, ys, hy, _⟩ := h1
   have := Zel (HS.out.ref.rows.its p' hp') (by rw [hy]; simp) j hj
   omega)
  clear hw1 hbx c0 c1 c2 c3 b1 b2
  have b2 : w1.cell? ⟨b, 5, none⟩ = some (.bool gv') := Za HR1.out.head rfl
  go_upto_if 20 with fail
  go_cut [3] (fun s wx => s = .pointer (some ⟨bx, 0, none⟩) ∧ (∃ v2, RefBt G ro0 ro1 ro2 wx b q true v2 ((ZF q gv' p.1, .slice pa p.1.its.length pc) :: r)) ∧ Fp (fun j => j = b) w wx ∧ wx.heap[bx]? = some (.cells #[.int .i64 p.1.id, .int .i64 p.1.wt, .int .i64 (ZF q gv' p.1).df, .slice pa p.1.its.length pc] 157 (0, 0)))
  case first =>
   have hpp : p = (p.1, .slice pa p.1.its.length pc) := by rw [← HPV.out]
   have HPP := Lib.hid hpp
   clear hpp
   rcases gv' with _ | _
   ·have x1 : w1.cell? ⟨bx, 1, none⟩ = some (.int .i64 p.1.wt) := Za HX1.out rfl
    have x2 : w1.cell? ⟨bx, 2, none⟩ = some (.int .i64 p.1.df) := Za HX1.out rfl
    have b0 : w1.cell? ⟨b, 3, none⟩ = some (.int .i64 q) := Za HR1.out.head rfl
    have f2 : w1.frozen? ⟨bx, 2, none⟩ = false := Zd HX1.out
    have hg := HS.out.ok.nds.1
    have hm := Zcr HQ1.out HQ.out hg.1 hg.2.1
    have hw1 : wrap64 (q * p.1.wt) = q * p.1.wt := by have e : (ndOf p.1).wt = p.1.wt := rfl; rw [e] at hm; unfold wrap64; omega
    have hw2 : wrap64 (p.1.df + q * p.1.wt) = p.1.df + q * p.1.wt := by
     have e : (ndOf p.1).wt = p.1.wt := rfl
     rw [e] at hm
     have h3 : 0 ≤ p.1.df := hg.2.2.1
     have h4 : p.1.df ≤ if false = true then 2112 else 1088 := hg.2.2.2
     simp at h4
     unfold wrap64
     omega
    clear hg hm
    go_upto_region 5 with fail
    go_region
    clear x1 x2 b0 f2 b2
    go_upto_region 6 with fail
    obtain ⟨w2, hw2'⟩ : ∃ w2 : World, w2 = (w1.setCell ⟨bx, 2, none⟩ (.int .i64 (p.1.df + q * p.1.wt))).drew := ⟨_, rfl⟩
    rw [← hw2']
    have hF2 : Fp (fun j => j = bx) w1 w2 := by rw [hw2']; exact ((Fp.refl (fun j => j = bx) w1).setCell (p := ⟨bx, 2, none⟩) (fun _ => rfl) _).drew
    have HX2 := Lib.hid (show w2.heap[bx]? = some (.cells #[.int .i64 p.1.id, .int .i64 p.1.wt, .int .i64 (p.1.df + q * p.1.wt), .slice pa p.1.its.length pc] 157 (0, 0)) by rw [hw2']; exact Ze HX1.out)
    have HR2 := Lib.hid (HR1.out.fp hF2 (fun e => HBX.out e.symm) (HXV.out) (fun p hp => HXI.out p hp))
    have HF2 := Lib.hid (show Fp (fun j => j = b) w w2 from HF1.out.trans hF2 (fun j hj e => by omega))
    have y0 : w2.cell? ⟨bx, 0, none⟩ = some (.int .i64 p.1.id) := Za HX2.out rfl
    have y1 : w2.cell? ⟨bx, 1, none⟩ = some (.int .i64 p.1.wt) := Za HX2.out rfl
    have y2 : w2.cell? ⟨bx, 2, none⟩ = some (.int .i64 (p.1.df + q * p.1.wt)) := Za HX2.out rfl
    have y3 : w2.cell? ⟨bx, 3, none⟩ = some (.slice pa p.1.its.length pc) := Za HX2.out rfl
    clear hw1 hw2 hw2' hF2
    go_wp2_with fail
    have hwith := ZeC b q false v' (p :: r) 0 (ZF q false p.1) (.slice pa p.1.its.length pc) w2 HR2.out (by simp) (by have h := HR2.out.rows.its p List.mem_cons_self; rw [HPV.out] at h; exact h) (by have h := HR2.out.ig p List.mem_cons_self; rw [HPV.out] at h; exact h) (HR2.out.fews p List.mem_cons_self)
    refine hwith.mono ?_
    rintro e w3 ⟨rfl, hF3, v3, hR3⟩
    have hwv : withV 0 (ZF q false p.1, .slice pa p.1.its.length pc) false (p :: r) = (false, (ZF q false p.1, .slice pa p.1.its.length pc) :: r) := by
     obtain ⟨y, ys, hy, _⟩ := HS.out.ok.full p.1 List.mem_cons_self
     unfold withV
     rw [if_neg (show ¬ (ZF q false p.1).its = [] by rw [(Zas q false p.1).1, hy]; simp)]
     rfl
    rw [hwv] at hR3
    have HX3 := Lib.hid (hF3.heap HX2.out HBX.out)
    have HF3 := Lib.hid (HF2.out.trans hF3 (fun _ _ h => h))
    have HR3 := Lib.hid hR3
    have b2 : w3.cell? ⟨b, 5, none⟩ = some (.bool false) := Za hR3.head rfl
    have f2 : w3.frozen? ⟨b, 5, none⟩ = false := Zd hR3.head
    clear hwith hF3 hR3 hwv y0 y1 y2 y3
    go_wp2_with fail
    go_meet
    case rel => exact ⟨rfl, ⟨v3, Zgj HR3.out true⟩, HF3.out.setCell (p := ⟨b, 5, none⟩) (fun _ => rfl) _, (Zh HBX.out).trans HX3.out⟩
   ·go_wp2_with fail
    go_meet
    case rel =>
     refine ⟨rfl, ⟨v', ?_⟩, HF1.out, HX1.out⟩
     rw [show ZF q true p.1 = p.1 from rfl, ← HPP.out]
     exact HR1.out
  case rest =>
   obtain ⟨rfl, ⟨v2, hR2⟩, hF2, hX2⟩ := hcut
   obtain ⟨y, ys, hy, hyc⟩ := HS.out.ok.full p.1 List.mem_cons_self
   obtain ⟨x', hx'⟩ : ∃ x', x' = ZF q gv' p.1 := ⟨_, rfl⟩
   have hch := Zas q gv' p.1
   rw [← hx'] at hR2 hX2 hch
   rw [← hch.1, ← hch.2.1, ← hch.2.2] at hX2
   have hxi : x'.its = y :: ys := by rw [hch.1, hy]
   rw [← hch.1] at hR2
   have hit := hR2.rows.its _ List.mem_cons_self
   simp only at hit
   obtain ⟨gi, offi, ci, hpv, i0, i1⟩ := ZbA hit (k := 0) (x := y) (by rw [hxi]; rfl)
   simp only [Nat.zero_mul, Nat.add_zero] at i0 i1
   cases hpv
   have HX' := Lib.hid hx'
   have HXI' := Lib.hid hxi
   have HR2 := Lib.hid hR2
   have HF2 := Lib.hid hF2
   have HX2 := Lib.hid hX2
   have HCH := Lib.hid hch
   have z2 : wc.cell? ⟨bx, 2, none⟩ = some (.int .i64 x'.df) := Za hX2 rfl
   have z3 : wc.cell? ⟨bx, 3, none⟩ = some (.slice (some ⟨gi, offi, none⟩) x'.its.length pc) := Za hX2 rfl
   have hpos : (0 : Int) < (x'.its.length : Int) := by rw [hxi]; simp
   clear hx' hxi hR2 hF2 hX2 hch hit i0 b2
   by_cases hle : y.cost ≤ x'.df
   ·have hd : decide (y.cost ≤ x'.df) = true := decide_eq_true hle
    have HLE := Lib.hid hle
    clear hle
    go_upto_region 8 with fail
    go_quiet (fail)
    go_wp2_with fail
    go_ret
    refine ⟨rfl, v2, _, HR2.out.below ⟨rfl, rfl, rfl, Nat.le_refl _, fun _ _ => rfl⟩, HS.out.same _ ?_, HF2.out.then_below ⟨rfl, rfl, rfl, Nat.le_refl _, fun _ _ => rfl⟩⟩
    rw [List.map_cons, List.map_cons]
    show PicksR q gv' (p.1 :: r.map Prod.fst) (x' :: r.map Prod.fst)
    have h := HX'.out
    subst h
    refine .grant ?_
    rw [← HCH.out.1, HXI'.out]
    exact HLE.out
   ·have hd : decide (y.cost ≤ x'.df) = false := decide_eq_false hle
    have HLE := Lib.hid hle
    clear hle
    go_upto_region 8 with fail
    go_quiet (fail)
    go_upto_region 10 with fail
    obtain ⟨w4, hw4⟩ : ∃ w4 : World, w4 = wc.drewN nq := ⟨_, rfl⟩
    rw [← hw4]
    have hbel : Below wc.heap.size wc w4 := by rw [hw4]; exact ZO (Below.refl _ _) nq
    have hR4 := HR2.out.below hbel
    have hX4 := (hbel.block bx (Zb HX2.out)).trans HX2.out
    have hF4 := HF2.out.then_below hbel
    obtain ⟨tv, hsl, hsrc⟩ := ZmV hR4.rows
    obtain ⟨i0', hi0, hz0, hz1', hz2'⟩ := info_parts Za8
    have hrl : r.length < 1000000 := by have := hR4.few; simp at this; omega
    obtain ⟨⟨v1', w5, ga, ca, wa, r1, r2, hLa, hba⟩, ⟨v2', w6, gb', cb, wb, r3, r4, hLb, hbb⟩, ⟨v3', w7, gc, cc, wcc, r5, r6, hLc, hbc⟩⟩ :=
     Zdn (P := Tryz.prog) w4 102 102 102 157 i0' _ 4 48 Tryz.underlying102 hi0 hz0 hz1' hz2' rfl (by decide) (v := tv) (n := r.length) (xs := Zt r) (us := encRV (x', .slice (some ⟨gi, offi, none⟩) x'.its.length pc)) hsrc (Zf2 (w := w4) (fun p' hp' => hR4.rows.its p' (List.mem_cons_of_mem _ hp'))) rfl (by simp [encRV, Value.oneCell']) hrl (by omega)
    have HR4 := Lib.hid hR4
    have HX4 := Lib.hid hX4
    have HF4 := Lib.hid hF4
    have HLA := Lib.hid hLa
    have HLB := Lib.hid hLb
    have HLC := Lib.hid hLc
    have hbw4 := Zb hR4.head
    have hxw4 := Zb hX4
    have b1 : w4.cell? ⟨b, 4, none⟩ = some v2 := Za hR4.head rfl
    have q0 : w4.cell? ⟨bx, 0, none⟩ = some (.int .i64 x'.id) := Za hX4 rfl
    have q1 : w4.cell? ⟨bx, 1, none⟩ = some (.int .i64 x'.wt) := Za hX4 rfl
    have q2 : w4.cell? ⟨bx, 2, none⟩ = some (.int .i64 x'.df) := Za hX4 rfl
    have q3 : w4.cell? ⟨bx, 3, none⟩ = some (.slice (some ⟨gi, offi, none⟩) x'.its.length pc) := Za hX4 rfl
    have q0a := Zc hba q0
    have q1a := Zc hba q1
    have q2a := Zc hba q2
    have q3a := Zc hba q3
    have q0b := Zc hbb q0
    have q1b := Zc hbb q1
    have q2b := Zc hbb q2
    have q3b := Zc hbb q3
    have q0c := Zc hbc q0
    have q1c := Zc hbc q1
    have q2c := Zc hbc q2
    have q3c := Zc hbc q3
    have hha := (hLa.below.block b hbw4).trans hR4.head
    have hhb := (hLb.below.block b hbw4).trans hR4.head
    have hhc := (hLc.below.block b hbw4).trans hR4.head
    have ka1 : wa.cell? ⟨b, 4, none⟩ = some v2 := Za hha rfl
    have kb1 : wb.cell? ⟨b, 4, none⟩ = some v2 := Za hhb rfl
    have kc1 : wcc.cell? ⟨b, 4, none⟩ = some v2 := Za hhc rfl
    have fa1 : wa.frozen? ⟨b, 4, none⟩ = false := Zd hha
    have fb1 : wb.frozen? ⟨b, 4, none⟩ = false := Zd hhb
    have fc1 : wcc.frozen? ⟨b, 4, none⟩ = false := Zd hhc
    clear hba hbb hbc hLa hLb hLc hi0 hz0 hz1' hz2' hha hhb hhc hR4 hX4 hF4 hw4 hbel hsrc i1 z2 z3 hpos hrl hyc hy
    simp only [encRV] at r2 r3 r4 r5 r6
    simp [go_sem] at r1 r2 r3 r4 r5 r6 hsl
    go_cut [] (fun wx => (∃ v3, RefBt G ro0 ro1 ro2 wx b q true v3 (r ++ [(x', .slice (some ⟨gi, offi, none⟩) x'.its.length pc)])) ∧ Fp (fun j => j = b) w wx)
    case first =>
     go_region
     all_goals
      clear r1 r2 r3 r4 r5 r6
      go_wp2_with fail
      go_meet
     all_goals
      first
      | exact ⟨⟨_, (ZbL HR4.out HLA.out).1⟩, HF4.out.trans (ZbL HR4.out HLA.out).2 (fun _ _ h => h)⟩
      | exact ⟨⟨_, (ZbL HR4.out HLB.out).1⟩, HF4.out.trans (ZbL HR4.out HLB.out).2 (fun _ _ h => h)⟩
      | exact ⟨⟨_, (ZbL HR4.out HLC.out).1⟩, HF4.out.trans (ZbL HR4.out HLC.out).2 (fun _ _ h => h)⟩
    case rest =>
     obtain ⟨⟨v3, hR5⟩, hF5⟩ := hcut
     have HR5 := Lib.hid hR5
     have HF5 := Lib.hid hF5
     have hmap : (r ++ [(x', Value.slice (some ⟨gi, offi, none⟩) x'.its.length pc)]).map Prod.fst = r.map Prod.fst ++ [ZF q gv' p.1] := by rw [List.map_append, HX'.out]; rfl
     have hno : ¬ headC p.1.its ≤ (ZF q gv' p.1).df := by
      rw [← HX'.out, ← HCH.out.1, HXI'.out]
      exact HLE.out
     have HMAP := Lib.hid hmap
     have HNO := Lib.hid hno
     have HROT := Lib.hid (RowsOk.rotate HQ1.out HQ.out HS.out.ok hno)
     have b2 : wc.cell? ⟨b, 5, none⟩ = some (.bool true) := Za hR5.head rfl
     have f2 : wc.frozen? ⟨b, 5, none⟩ = false := Zd hR5.head
     clear hR5 hF5 hmap hno hsl b1 q0 q1 q2 q3 q0a q1a q2a q3a q0b q1b q2b q3b q0c q1c q2c q3c ka1 kb1 kc1 fa1 fb1 fc1 r1 r2 r3 r4 r5 r6
     go_wp2_with fail
     go_roundg (Zac false (((r ++ [(x', Value.slice (some ⟨gi, offi, none⟩) x'.its.length pc)]).map Prod.fst).map ndOf))
     case rel =>
      refine ⟨false, v3, _, by simp, ⟨rfl, Zgj HR5.out false, ?_, fun l2 h2 => HS.out.same l2 (.rotate (Int.not_le.2 HNO.out) ?_), HF5.out.setCell (p := ⟨b, 5, none⟩) (fun _ => rfl) _⟩⟩
      ·rw [HMAP.out]
       exact HROT.out.1
      ·rw [HMAP.out] at h2
       exact h2
     case measure =>
      rw [HS.out.less, HMAP.out]
      exact HROT.out.2
end Go.Proofs.YtdbjihkgafhakaaGreatDoor
/-
 ref15 (flows), inside a tenant's row: printed by refb_gen.py out of the walks of a ring of its own.
-/
namespace Go.Proofs.YtdbjihkgafhakaaGreatDoor
open Go.RowKit
variable {G : Nat → Prop} {ro0 ro1 ro2 : Value}
theorem RefBt.box {w w' : World} {b o : Nat} {q : Int} {gv : Bool} {v u t : Value} {T : TypeId} {l : List (FRow × Value)} (h : RefBt G ro0 ro1 ro2 w b q gv v l) (hF : Fp (fun j => j = o) w w') (hob : ¬ b = o) (ho : w.heap[o]? = some (.cells #[u, t] T (0, 0))) (hI : ∀ p ∈ l, ∀ k, p.2.ownBlock = some k → ¬ k = o) : RefBt G ro0 ro1 ro2 w' b q gv v l := by
 refine ⟨hF.heap h.head hob, ?_, fun hl => (h.vg hl).grow hF.size, fun p hp => (h.ig p hp).grow hF.size, h.nb, fun k hk => h.up k (Nat.le_trans hF.size hk), h.few, h.fews⟩
 rcases l with _ | ⟨p, r⟩
 ·obtain ⟨⟨a, cap, hv, hle, _⟩, _⟩ := h.rows
  exact ⟨⟨a, cap, hv, hle, fun j u hu => by simp [Zt] at hu⟩, fun p hp => by cases hp⟩
 ·refine h.rows.fp hF (fun k hk e => ?_) hI
  obtain ⟨g, off, cap, rfl, _, _, _, _, c3⟩ := h.rows.at (k := 0) rfl
  have hg : g = k := by simpa [Value.ownBlock] using hk
  rw [hg, e] at c3
  exact Zem ho (by omega) _ c3
def Zn0 (G : Nat → Prop) (ro0 ro1 ro2 : Value) (b : Nat) (q : Int) (gv : Bool) (rows : List FRow) (w : World) (e : Ending) (w' : World) : Prop :=
 ∃ row rest v' l', e = .returned (.tuple #[.int .i64 row.id, itV (row.its.headD ⟨0, 0⟩), .bool true]) ∧ PicksR q gv rows (row :: rest) ∧ RefBt G ro0 ro1 ro2 w' b q (tookR row rest).1 v' l' ∧ l'.map Prod.fst = (tookR row rest).2 ∧ Fp (fun j => j = b) w w'
set_option maxRecDepth 100000 in
set_option maxHeartbeats 4000000 in
theorem Zhy (b : Nat) (q : Int) (gv : Bool) (v : Value) (l : List (FRow × Value)) (w : World) (h : RefBt G ro0 ro1 ro2 w b q gv v l) (hne : l ≠ []) (hq1 : 1 ≤ q) (hq : q ≤ 64) (hok : RowsOk gv (l.map Prod.fst)) (hon : ∀ r ∈ l.map Prod.fst, (r.its.map It.id).Nodup) :
 Calls Tryz.prog 106 #[.pointer (some ⟨b, 3, none⟩)] w (Zn0 G ro0 ro1 ro2 b q gv (l.map Prod.fst) w) := by
 have HR := Lib.hid h
 have HNE := Lib.hid hne
 have HQ1 := Lib.hid hq1
 have HQ := Lib.hid hq
 have HOK := Lib.hid hok
 have HON := Lib.hid hon
 have hbw := Zb h.head
 clear h hne hq1 hq hok hon
 go_enter Tryz.func106, Tryz.ntmps106
 go_wp2_with fail
 refine (Zd9 b q gv v l _ (HR.out.below box_below) HNE.out HQ1.out HQ.out HOK.out).mono ?_
 rintro e w2 ⟨rfl, v2, l2, hR2, hp, hF2⟩
 obtain ⟨x0, rest0, he, hle⟩ := hp.le
 obtain ⟨p, r, rfl⟩ : ∃ p r, l2 = p :: r := by
  cases l2 with
  | nil => cases he
  | cons p r => exact ⟨p, r, rfl⟩
 rw [List.map_cons, List.cons.injEq] at he
 obtain ⟨rfl, rfl⟩ := he
 have hh2 := hF2.heap Zf (show ¬ w.heap.size = b by omega)
 have HH2 := Lib.hid hh2
 have HR2 := Lib.hid hR2
 have HP := Lib.hid hp
 have HF2 := Lib.hid ((Fp.of_below (S := fun j => j = b) box_below).trans hF2 (fun _ _ h => h))
 have HLE := Lib.hid hle
 have HOK2 := Lib.hid (ZbX hp HQ1.out HQ.out HOK.out)
 clear hh2 hR2 hp hF2 hle
 obtain ⟨gb, off, cap', hv, hcap, c0, c1, c2, c3⟩ := HR2.out.rows.at (k := 0) (p := p) rfl
 obtain ⟨x, xs, hx, hx1, hx2⟩ := HOK2.out.full p.1 List.mem_cons_self
 have HX := Lib.hid hx
 have honx : Zam (x :: xs) x.id = xs := by
  have h := ZdK HP.out HON.out p.1 List.mem_cons_self
  rw [hx] at h
  rw [Zbo h (i := 0) rfl]
  rfl
 have HDR := Lib.hid honx
 clear honx
 have hpi := HR2.out.rows.its p List.mem_cons_self
 rw [hx] at hpi
 obtain ⟨pa, po, pc, hpv, i0, i1⟩ := ZbA hpi (k := 0) rfl
 have HPI := Lib.hid hpi
 have HV := Lib.hid hv
 have HPV := Lib.hid hpv
 rw [hpv] at c3
 simp only [Nat.zero_mul, Nat.add_zero, List.length_cons] at c0 c1 c2 c3 i0 i1
 have b1 : w2.cell? ⟨b, 4, none⟩ = some (.slice (some ⟨gb, off, none⟩) (r.length + 1) cap') := by rw [← List.length_cons (a := p), ← hv]; exact Za HR2.out.head rfl
 clear hv hpv hx hpi
 go_upto_region 4 with fail
 obtain ⟨w3, hw3⟩ : ∃ w3 : World, w3 = w2.alloc (.cells #[.int .i64 p.1.id, .int .i64 p.1.wt, .int .i64 p.1.df, .slice (some ⟨pa, po, none⟩) (xs.length + 1) pc] 157) := ⟨_, rfl⟩
 obtain ⟨bx, hbx⟩ : ∃ bx : Nat, bx = w2.heap.size := ⟨_, rfl⟩
 rw [← hw3, ← hbx]
 have hB3 : Below w2.heap.size w2 w3 := by rw [hw3]; exact box_below
 have hX3 : w3.heap[bx]? = some (.cells #[.int .i64 p.1.id, .int .i64 p.1.wt, .int .i64 p.1.df, .slice (some ⟨pa, po, none⟩) (xs.length + 1) pc] 157 (0, 0)) := by rw [hw3, hbx]; exact Zf
 have x3 : w3.cell? ⟨bx, 3, none⟩ = some (.slice (some ⟨pa, po, none⟩) (xs.length + 1) pc) := Za hX3 rfl
 have HX3 := Lib.hid hX3
 have HB3 := Lib.hid hB3
 have HBX := Lib.hid hbx
 have i0 := (Fp.of_below (S := fun _ => False) hB3).cell i0 (fun h => h)
 have i1 := (Fp.of_below (S := fun _ => False) hB3).cell i1 (fun h => h)
 have hz3 : w3.heap.size = bx + 1 := by rw [hw3, hbx]; simp
 have HZ3 := Lib.hid hz3
 clear hw3 hX3 hB3 hbx b1 c0 c1 c2 c3 hz3
 go_upto_region 5 with fail
 obtain ⟨w4, hw4⟩ : ∃ w4 : World, w4 = w3.alloc (.cells #[.int .i64 x.id, .int .i64 x.cost] 132) := ⟨_, rfl⟩
 obtain ⟨bi, hbi⟩ : ∃ bi : Nat, bi = w3.heap.size := ⟨_, rfl⟩
 rw [← hw4, ← hbi]
 have hB4 : Below w3.heap.size w3 w4 := by rw [hw4]; exact box_below
 have hX4 : w4.heap[bx]? = some (.cells #[.int .i64 p.1.id, .int .i64 p.1.wt, .int .i64 p.1.df, .slice (some ⟨pa, po, none⟩) (xs.length + 1) pc] 157 (0, 0)) := (hB4.block bx (Zb HX3.out)).trans HX3.out
 have hI4 : w4.heap[bi]? = some (.cells #[.int .i64 x.id, .int .i64 x.cost] 132 (0, 0)) := by rw [hw4, hbi]; exact Zf
 have x3 : w4.cell? ⟨bx, 3, none⟩ = some (.slice (some ⟨pa, po, none⟩) (xs.length + 1) pc) := Za hX4 rfl
 have y0 : w4.cell? ⟨bi, 0, none⟩ = some (.int .i64 x.id) := Za hI4 rfl
 have HX4 := Lib.hid hX4
 have HI4 := Lib.hid hI4
 have HB4 := Lib.hid hB4
 have HBI := Lib.hid hbi
 clear hw4 hX4 hB4 hbi hI4 i0 i1
 go_wp2_with fail
 have hit4 : ItsAt w4 (.slice (some ⟨pa, po, none⟩) (xs.length + 1) pc) (x :: xs) := by
  have h := HPI.out
  rw [HPV.out] at h
  exact (h.below HB3.out).below HB4.out
 refine (Zi3 x.id _ (x :: xs) w4 hit4 (by rw [← HX.out]; exact HR2.out.fews p List.mem_cons_self)).mono ?_
 rintro e w5 ⟨v5, rfl, ho5, hB5⟩
 rw [HDR.out] at ho5
 obtain ⟨a5, c5, rfl⟩ := ZN (ItsAt.own ho5)
 have hX5 : w5.heap[bx]? = some (.cells #[.int .i64 p.1.id, .int .i64 p.1.wt, .int .i64 p.1.df, .slice (some ⟨pa, po, none⟩) (xs.length + 1) pc] 157 (0, 0)) := (hB5.block bx (Zb HX4.out)).trans HX4.out
 have hI5 : w5.heap[bi]? = some (.cells #[.int .i64 x.id, .int .i64 x.cost] 132 (0, 0)) := (hB5.block bi (Zb HI4.out)).trans HI4.out
 have f3 : w5.frozen? ⟨bx, 3, none⟩ = false := Zd hX5
 have HX5 := Lib.hid hX5
 have HI5 := Lib.hid hI5
 have HO5 := Lib.hid ho5
 have HB5 := Lib.hid hB5
 have hnb : bx ≠ bi := by rw [HBI.out, HZ3.out]; omega
 have HNB := Lib.hid hnb
 clear hX5 hI5 ho5 hB5 x3 y0 hit4 hnb
 have x3 : w5.cell? ⟨bx, 3, none⟩ = some (.slice (some ⟨pa, po, none⟩) (xs.length + 1) pc) := Za HX5.out rfl
 go_upto_region 6 with fail
 obtain ⟨w6, hw6⟩ : ∃ w6 : World, w6 = w5.setCell ⟨bx, 3, none⟩ (.slice a5 xs.length c5) := ⟨_, rfl⟩
 rw [← hw6]
 have hF6 : Fp (fun j => j = bx) w5 w6 := by rw [hw6]; exact (Fp.refl (fun j => j = bx) w5).setCell (p := ⟨bx, 3, none⟩) (fun _ => rfl) _
 have hX6 : w6.heap[bx]? = some (.cells #[.int .i64 p.1.id, .int .i64 p.1.wt, .int .i64 p.1.df, .slice a5 xs.length c5] 157 (0, 0)) := by rw [hw6]; exact Ze HX5.out
 have hI6 : w6.heap[bi]? = some (.cells #[.int .i64 x.id, .int .i64 x.cost] 132 (0, 0)) := hF6.heap HI5.out (fun e => HNB.out e.symm)
 have x2 : w6.cell? ⟨bx, 2, none⟩ = some (.int .i64 p.1.df) := Za hX6 rfl
 have y1 : w6.cell? ⟨bi, 1, none⟩ = some (.int .i64 x.cost) := Za hI6 rfl
 have f2 : w6.frozen? ⟨bx, 2, none⟩ = false := Zd hX6
 have hws : wrap64 (p.1.df - x.cost) = p.1.df - x.cost := by
  have h : NdOk 2112 (ndOf p.1) := HOK2.out.nds.1
  have h0 : 0 ≤ p.1.df := h.2.2.1
  have h1 : p.1.df ≤ 2112 := h.2.2.2
  unfold wrap64
  omega
 have HX6 := Lib.hid hX6
 have HI6 := Lib.hid hI6
 have HF6 := Lib.hid hF6
 clear hw6 hX6 hI6 hF6 f3 x3
 go_upto_region 7 with fail
 obtain ⟨w7, hw7⟩ : ∃ w7 : World, w7 = w6.setCell ⟨bx, 2, none⟩ (.int .i64 (p.1.df - x.cost)) := ⟨_, rfl⟩
 rw [← hw7]
 have hF7 : Fp (fun j => j = bx) w6 w7 := by rw [hw7]; exact (Fp.refl (fun j => j = bx) w6).setCell (p := ⟨bx, 2, none⟩) (fun _ => rfl) _
 have hX7 : w7.heap[bx]? = some (.cells #[.int .i64 p.1.id, .int .i64 p.1.wt, .int .i64 (p.1.df - x.cost), .slice a5 xs.length c5] 157 (0, 0)) := by rw [hw7]; exact Ze HX6.out
 have hI7 : w7.heap[bi]? = some (.cells #[.int .i64 x.id, .int .i64 x.cost] 132 (0, 0)) := hF7.heap HI6.out (fun e => HNB.out e.symm)
 have x0 : w7.cell? ⟨bx, 0, none⟩ = some (.int .i64 p.1.id) := Za hX7 rfl
 have x1 : w7.cell? ⟨bx, 1, none⟩ = some (.int .i64 p.1.wt) := Za hX7 rfl
 have x2 : w7.cell? ⟨bx, 2, none⟩ = some (.int .i64 (p.1.df - x.cost)) := Za hX7 rfl
 have x3 : w7.cell? ⟨bx, 3, none⟩ = some (.slice a5 xs.length c5) := Za hX7 rfl
 have HX7 := Lib.hid hX7
 have HI7 := Lib.hid hI7
 have HF7 := Lib.hid hF7
 clear hw7 hX7 hI7 hF7 f2 y1 hws
 go_wp2_with fail
 have hF57 : Fp (fun j => j = bx) w5 w7 := HF6.out.trans HF7.out (fun _ _ h => h)
 have hR5 := ((HR2.out.below HB3.out).below HB4.out).below HB5.out
 have hbw2 := Zb HR2.out.head
 have hbxb : ¬ b = bx := by rw [HBX.out]; omega
 have hbw4 : w4.heap.size ≥ w3.heap.size := HB4.out.size
 have hR7 : RefBt G ro0 ro1 ro2 w7 b q true v2 (p :: r) := hR5.fp hF57 hbxb (fun j hj e => by
  rw [HBX.out] at e
  have := Zgw HR2.out.rows.rows (by simp) j hj
  omega) (fun p' hp' j hj e => by
  rw [HBX.out] at e
  obtain ⟨y, ys, hy, _⟩ := HOK2.out.full p'.1 (List.mem_map_of_mem hp')
  have := Zel (HR2.out.rows.its p' hp') (by rw [hy]; simp) j hj
  omega)
 have hit7 : ItsAt w7 (.slice a5 xs.length c5) xs := (ItsAt.own HO5.out).fp hF57 (fun j hj e => by
  have h1 := Zl HO5.out j hj
  have h2 := HZ3.out
  omega)
 have hvb : InG G w7 (Value.slice a5 xs.length c5) := (Zb0 HO5.out (fun k hk => ((HR2.out.below HB3.out).below HB4.out).up k hk)).grow hF57.size
 have hfew : xs.length ≤ 1000000 := by
  have h := HR2.out.fews p List.mem_cons_self
  rw [HX.out, List.length_cons] at h
  omega
 refine (ZeC b q true v2 (p :: r) 0 { p.1 with df := p.1.df - x.cost, its := xs } (.slice a5 xs.length c5) w7 hR7 (by simp) hit7 hvb hfew).mono ?_
 rintro e w8 ⟨rfl, hF8, v8, hR8⟩
 have hX8 := hF8.heap HX7.out (fun e => hbxb e.symm)
 have hbi : ¬ bi = b := by
  have h2 := HZ3.out
  have h3 := HBX.out
  have h4 := HBI.out
  omega
 have hI8 := hF8.heap HI7.out hbi
 have hwb : ¬ w.heap.size = b := by omega
 have hw2 := Zb HH2.out
 have hH5 := (HB5.out.block w.heap.size (by have := HZ3.out; have := HBX.out; omega)).trans ((HB4.out.block w.heap.size (by have := HZ3.out; have := HBX.out; omega)).trans ((HB3.out.block w.heap.size hw2).trans HH2.out))
 have hH8 := hF8.heap (hF57.heap hH5 (by rw [HBX.out]; omega)) hwb
 have HH8 := Lib.hid hH8
 have HX8 := Lib.hid hX8
 have HI8 := Lib.hid hI8
 have HF8 := Lib.hid hF8
 have HR8 := Lib.hid hR8
 have HF57 := Lib.hid hF57
 have z0 : w8.cell? ⟨bx, 0, none⟩ = some (.int .i64 p.1.id) := Za hX8 rfl
 have y0 : w8.cell? ⟨bi, 0, none⟩ = some (.int .i64 x.id) := Za hI8 rfl
 have y1 : w8.cell? ⟨bi, 1, none⟩ = some (.int .i64 x.cost) := Za hI8 rfl
 clear hF57 hR5 hR7 hit7 hvb hfew hF8 hR8 hX8 hI8 hH5 hH8 x0 x1 x2 x3
 have t0 : w8.cell? ⟨w.heap.size, 0, none⟩ = some (.int .i64 0) := Za HH8.out rfl
 have t1 : w8.cell? ⟨w.heap.size, 1, none⟩ = some (.int .i64 0) := Za HH8.out rfl
 have g0 : w8.frozen? ⟨w.heap.size, 0, none⟩ = false := Zd HH8.out
 have g1 : w8.frozen? ⟨w.heap.size, 1, none⟩ = false := Zd HH8.out
 go_upto_region 8 with fail
 go_region
 clear z0 y0 y1 t0 t1 g0 g1
 go_wp2_with fail
 obtain ⟨w9, hw9⟩ : ∃ w9 : World, w9 = ((w8.setCell ⟨w.heap.size, 0, none⟩ (.int .i64 x.id)).setCell ⟨w.heap.size, 1, none⟩ (.int .i64 x.cost)).drew := ⟨_, rfl⟩
 have hh9 : w9.heap[w.heap.size]? = some (.cells #[.int .i64 x.id, .int .i64 x.cost] 132 (0, 0)) := by rw [hw9]; exact Ze (Ze HH8.out)
 have HF9 := Lib.hid (show Fp (fun k => k = w.heap.size) w8 w9 by
  rw [hw9]
  exact (((Fp.refl (fun k => k = w.heap.size) w8).setCell (p := ⟨w.heap.size, 0, none⟩) (fun _ => rfl) _).setCell (p := ⟨w.heap.size, 1, none⟩) (fun _ => rfl) _).drew)
 rw [← hw9]
 clear hw9
 refine bodyPost_ret (v := .tuple #[.int .i64 p.1.id, .agg #[.int .i64 x.id, .int .i64 x.cost], .bool true]) (Zde Tryz.results106 rfl rfl rfl hh9 Tryz.underlying132 rfl (Zaw x)) rfl ?_
 have hsz3 := HZ3.out
 have hbxe := HBX.out
 have hF := (((((HF2.out.then_below HB3.out).then_below HB4.out).then_below HB5.out).trans HF57.out (fun j hj e => by omega)).trans HF8.out (fun _ _ h => h)).trans HF9.out (fun j hj e => by omega)
 have hres := HR8.out.box HF9.out (fun e => by omega) HH8.out (fun p' hp' k hk e => by
  rcases ZbW hp' with hp' | rfl
  ·obtain ⟨y, ys, hy, hy1, hy2⟩ := HOK2.out.full p'.1 (List.mem_map_of_mem hp')
   have hi := HR2.out.rows.its p' hp'
   rw [hy] at hi
   obtain ⟨g, o, cap, hv, j0, j1⟩ := ZbA hi (k := 0) rfl
   rw [hv] at hk
   have hg : g = k := by simpa [Value.ownBlock] using hk
   rw [hg, e] at j1
   simp only [Nat.zero_mul, Nat.add_zero] at j1
   by_cases ho : o = 0
   ·subst ho
    rw [Za HH2.out (show (#[Value.int .i64 0, .int .i64 0] : Array Value)[0 + 1]? = some (.int .i64 0) from rfl)] at j1
    simp at j1
    omega
   ·exact Zem HH2.out (by omega) _ j1
  ·have := Zl HO5.out k hk
   omega)
 have hcfg := Zkl 0 ({ p.1 with df := p.1.df - x.cost, its := xs }, Value.slice a5 xs.length c5) true (p :: r)
 have hhc : headC p.1.its = x.cost := by rw [HX.out]; rfl
 have htl : p.1.its.tail = xs := by rw [HX.out]; rfl
 have htk : tookR p.1 (r.map Prod.fst) = withR 0 { p.1 with df := p.1.df - x.cost, its := xs } true ((p :: r).map Prod.fst) := by
  unfold tookR
  rw [hhc, htl]
  rfl
 refine ⟨p.1, r.map Prod.fst, v8, _, by rw [HX.out]; rfl, HP.out, ?_, by rw [htk]; exact hcfg.2, hF⟩
 rw [htk, ← hcfg.1]
 exact hres
end Go.Proofs.YtdbjihkgafhakaaGreatDoor
/-
 ref15 (flows), inside a tenant's row: printed by refb_gen.py out of the walks of a ring of its own.
-/
namespace Go.Proofs.YtdbjihkgafhakaaGreatDoor
open Go.RowKit
variable {G : Nat → Prop} {ro0 ro1 ro2 : Value}
open Go.Sort
set_option maxRecDepth 100000 in
set_option maxHeartbeats 4000000 in
theorem ZkN (u v : Value) (l m : List (FRow × Value)) (w : World) (h : RowsAt w u l) (h' : RowsAt w v m) (hlm : l.map Prod.fst = m.map Prod.fst) (hf : l.length ≤ 1000000) (hfs : ∀ p ∈ l, p.1.its.length ≤ 1000000) : Calls Tryz.prog 107 #[u, v] w fun e w' => e = .returned (.bool true) ∧ Below w.heap.size w w' := by
 have hl : m.length = l.length := by
  have := congrArg List.length hlm
  simpa using this.symm
 have HI := Lib.hid h
 have HJ := Lib.hid h'
 obtain ⟨a, cap, rfl, -⟩ := h.form
 obtain ⟨b, cap2, rfl, -⟩ := h'.form
 have HLM := Lib.hid hlm
 have HF := Lib.hid hf
 have HFS := Lib.hid hfs
 rw [hl] at HJ ⊢
 have HL := Lib.hid hl
 clear h h' hlm hf hfs hl
 have hle : ((l.length : Int) != (l.length : Int)) = false := by simp
 go_enter Tryz.func107, Tryz.ntmps107
 go_wp2_with fail
 go_loopg [5] l.length (fun g i wr => ∃ k : Nat, g = l.length - k ∧ i = .int .i64 k ∧ k ≤ l.length ∧ Below w.heap.size w wr)
 case atStart => exact ⟨0, rfl, rfl, Nat.zero_le _, Below.refl _ _⟩
 case round =>
  obtain ⟨k, hg, rfl, hk, hb⟩ := hrel
  have HG := Lib.hid hg
  have HB := Lib.hid hb
  clear hg hb
  by_cases hlt : k < l.length
  ·obtain ⟨⟨x, vi⟩, hx⟩ : ∃ p, l[k]? = some p := ⟨_, List.getElem?_eq_getElem hlt⟩
   obtain ⟨⟨x', vj⟩, hy⟩ : ∃ p, m[k]? = some p := ⟨_, List.getElem?_eq_getElem (by have := HL.out; omega)⟩
   have hxx : x' = x := by
    have h := congrArg (fun z => z[k]?) HLM.out
    simp only [List.getElem?_map, hx, hy, Option.map_some, Option.some.injEq] at h
    exact h.symm
   subst hxx
   have HXI := Lib.hid (HI.out.its _ (List.mem_of_getElem? hx))
   have HXJ := Lib.hid (HJ.out.its _ (List.mem_of_getElem? hy))
   have HXF := Lib.hid (HFS.out _ (List.mem_of_getElem? hx))
   obtain ⟨g, off, cap', hv, _, c0, c1, c2, c3⟩ := (HI.out.below HB.out).at hx
   cases hv
   obtain ⟨g', off', cap', hv, _, d0, d1, d2, d3⟩ := (HJ.out.below HB.out).at hy
   rw [HL.out] at hv
   cases hv
   simp only at c0 c1 c2 c3 d0 d1 d2 d3
   have hkl : (k : Int) < (l.length : Int) := by omega
   have c0 := cell_regrown c0
   have c1 := cell_regrown c1
   have c2 := cell_regrown c2
   have c3 := cell_regrown c3
   have d0 := cell_regrown d0
   have d1 := cell_regrown d1
   have d2 := cell_regrown d2
   have d3 := cell_regrown d3
   have e0 : (x'.id != x'.id) = false := by simp
   have e1 : (x'.wt != x'.wt) = false := by simp
   have e2 : (x'.df != x'.df) = false := by simp
   have hsame : ∀ (d : Nat) (os : Array Obj), Calls Tryz.prog 129 #[vi, vj] (grow (redrawn wr d) os) fun e w' => e = .returned (.bool true) ∧ Below (grow (redrawn wr d) os).heap.size (grow (redrawn wr d) os) w' := fun d os => by
    have hb := Zp (d := d) (os := os) HB.out HB.out.size
    have h := Zi4 vi vj x'.its x'.its _ (HXI.out.below hb) (HXJ.out.below hb) HXF.out HXF.out
    simpa using h
   have HSAME := Lib.hid hsame
   clear hx hy hsame
   go_upto_region 6 with fail
   refine wp_region_quiet_below (by kernel_rfl) (by kernel_rfl) ?_
   repeat (go_big_quiet_step (exact Calls.regrown_of (HSAME.out _ _)))
   refine wpQuiet_nil ?_
   rintro _ ⟨⟨dq, osq⟩, rfl⟩
   clear c0 c1 c2 c3 d0 d1 d2 d3
   go_wp2_with fail
   go_roundg (l.length - (k + 1))
   case rel =>
    have hf := HF.out
    exact ⟨k + 1, rfl, by rw [show wrap64 ((k : Int) + 1) = ((k + 1 : Nat) : Int) by unfold wrap64; omega], by omega, Zp HB.out HB.out.size⟩
   case measure => have := HG.out; omega
  ·go_wp2_with fail
   go_ret
   exact ⟨rfl, HB.out⟩
end Go.Proofs.YtdbjihkgafhakaaGreatDoor
