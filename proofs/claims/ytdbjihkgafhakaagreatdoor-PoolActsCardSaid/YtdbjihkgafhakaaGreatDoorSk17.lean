/-
  ref15 (flows), inside a tenant's row: printed by refb_gen.py out of the walks of a ring of its own.
-/
import Derived.Test.YtdbjihkgafhakaaGreatDoorSk07
import Derived.Deep.DeepCutAuto
import Derived.BigRegion
namespace Go.Proofs.YtdbjihkgafhakaaGreatDoor
open Go.RowKit
variable {G : Nat → Prop} {ro0 ro1 ro2 : Value}
structure RefBt (G : Nat → Prop) (ro0 ro1 ro2 : Value) (w : World) (b : Nat) (q : Int) (gv : Bool) (v : Value) (l : List (FRow × Value)) : Prop where
  head : w.heap[b]? = some (.cells #[ro0, ro1, ro2, .int .i64 q, v, .bool gv] 106 (0, 0))
  rows : RowsAt w v l
  vg : l ≠ [] → InG G w v
  ig : ∀ p ∈ l, InG G w p.2
  nb : ¬ G b
  up : ∀ k, w.heap.size ≤ k → G k
  few : l.length ≤ 1000000
  fews : ∀ p ∈ l, p.1.its.length ≤ 1000000
theorem RefBt.below {w w' : World} {b : Nat} {q : Int} {gv : Bool} {v : Value} {l : List (FRow × Value)} (h : RefBt G ro0 ro1 ro2 w b q gv v l) (hb : Below w.heap.size w w') : RefBt G ro0 ro1 ro2 w' b q gv v l :=
  ⟨(hb.block b (fp_lt_of_heap h.head)).trans h.head, h.rows.below hb, fun hl => (h.vg hl).grow hb.size, fun p hp => (h.ig p hp).grow hb.size, h.nb, fun k hk => h.up k (Nat.le_trans hb.size hk), h.few, h.fews⟩
theorem RefBt.nv {w : World} {b : Nat} {q : Int} {gv : Bool} {v : Value} {l : List (FRow × Value)} (h : RefBt G ro0 ro1 ro2 w b q gv v l) (hl : l ≠ []) : v.ownBlock ≠ some b := (h.vg hl).not h.nb
theorem RefBt.ni {w : World} {b : Nat} {q : Int} {gv : Bool} {v : Value} {l : List (FRow × Value)} (h : RefBt G ro0 ro1 ro2 w b q gv v l) : ∀ p ∈ l, p.2.ownBlock ≠ some b := fun p hp => (h.ig p hp).not h.nb
theorem RefBt.fp {S : Nat → Prop} {w w' : World} {b : Nat} {q : Int} {gv : Bool} {v : Value} {l : List (FRow × Value)} (h : RefBt G ro0 ro1 ro2 w b q gv v l) (hF : Fp S w w') (h0 : ¬ S b) (hS : ∀ k, v.ownBlock = some k → ¬ S k) (hI : ∀ p ∈ l, ∀ k, p.2.ownBlock = some k → ¬ S k) : RefBt G ro0 ro1 ro2 w' b q gv v l :=
  ⟨hF.heap h.head h0, h.rows.fp hF hS hI, fun hl => (h.vg hl).grow hF.size, fun p hp => (h.ig p hp).grow hF.size, h.nb, fun k hk => h.up k (Nat.le_trans hF.size hk), h.few, h.fews⟩
def WithPostB (G : Nat → Prop) (ro0 ro1 ro2 : Value) (b : Nat) (q : Int) (s : Bool × List (FRow × Value)) (w : World) (e : Ending) (w' : World) : Prop := e = .returned (.tuple #[]) ∧ Fp (fun j => j = b) w w' ∧ ∃ v', RefBt G ro0 ro1 ro2 w' b q s.1 v' s.2
theorem with_closeB {b k base : Nat} {q : Int} {gv : Bool} {v vx vo : Value} {l : List (FRow × Value)} {x : FRow} {w wr w3 : World} (hR : RefBt G ro0 ro1 ro2 w b q gv v l) (hB : Below w.heap.size w wr) (hx : ItsAt w vx x.its) (hxb : InG G w vx) (hxf : x.its.length ≤ 1000000)
    (ho : wr.ownsRow base 157 4 vo (withV k (x, vx) gv l).2.length (flatRV (withV k (x, vx) gv l).2)) (hbase : w.heap.size ≤ base) (hF : Fp (fun j => j = b) wr w3) (hh : w3.heap[b]? = some (.cells #[ro0, ro1, ro2, .int .i64 q, vo, .bool (withV k (x, vx) gv l).1] 106 (0, 0))) :
    WithPostB G ro0 ro1 ro2 b q (withV k (x, vx) gv l) w (.returned (.tuple #[])) w3 := by
  have hbw := fp_lt_of_heap hR.head
  have hsz := Nat.le_trans hB.size hF.size
  have hvg : InG G w3 vo := (own_inG ho (fun k hk => hR.up k (Nat.le_trans hbase hk))).grow hF.size
  have hig : ∀ p ∈ (withV k (x, vx) gv l).2, InG G w3 p.2 := fun p hp => by
    rcases with_mem hp with h | rfl
    · exact (hR.ig p h).grow hsz
    · exact hxb.grow hsz
  have hvo : vo.ownBlock ≠ some b := hvg.not hR.nb
  have hib : ∀ p ∈ (withV k (x, vx) gv l).2, p.2.ownBlock ≠ some b := fun p hp => (hig p hp).not hR.nb
  refine ⟨rfl, (Fp.of_below hB).trans hF (fun _ _ h => h), vo, ⟨hh, ?_, fun _ => hvg, hig, hR.nb, fun k hk => hR.up k (Nat.le_trans hsz hk), Nat.le_trans with_len hR.few, fun p hp => ?_⟩⟩
  · refine (rows_own ho (fun p hp => ?_)).fp hF (fun j hj e => hvo (e ▸ hj)) (fun p hp j hj e => hib p hp (e ▸ hj))
    rcases with_mem hp with h | rfl
    · exact (hR.rows.its p h).below hB
    · exact hx.below hB
  · rcases with_mem hp with h | rfl
    · exact hR.fews p h
    · exact hxf
set_option maxRecDepth 100000 in
set_option maxHeartbeats 4000000 in
theorem r15With_anyB (b : Nat) (q : Int) (gv : Bool) (v : Value) (l : List (FRow × Value)) (k : Nat) (x : FRow) (vx : Value) (w : World) (h : RefBt G ro0 ro1 ro2 w b q gv v l) (hk : k < l.length) (hx : ItsAt w vx x.its) (hxb : InG G w vx) (hxf : x.its.length ≤ 1000000) :
    Calls Tryz.prog 125 #[.pointer (some ⟨b, 3, none⟩), .int .i64 k, .agg #[.int .i64 x.id, .int .i64 x.wt, .int .i64 x.df, vx]] w (WithPostB G ro0 ro1 ro2 b q (withV k (x, vx) gv l) w) := by
  have HX := Lib.hid hx
  have HXB := Lib.hid hxb
  have HXF := Lib.hid hxf
  obtain ⟨xa, xc, rfl⟩ := its_form hx
  have HR := Lib.hid (h.below (box_below (o := .cells #[.int .i64 x.id, .int .i64 x.wt, .int .i64 x.df, .slice xa x.its.length xc] 157)))
  have HR0 := Lib.hid h
  have hbw := fp_lt_of_heap h.head
  obtain ⟨a, cap, rfl, -⟩ := h.rows.form
  have HF := Lib.hid h.few
  have HK := Lib.hid hk
  clear h hx hxb hxf hk
  go_enter Tryz.func125, Tryz.ntmps125
  go_wp2_with fail
  obtain ⟨w1, hw1⟩ : ∃ w1 : World, w1 = w.alloc (.cells #[.int .i64 x.id, .int .i64 x.wt, .int .i64 x.df, .slice xa x.its.length xc] 157) := ⟨_, rfl⟩
  have hz1 : w1.heap.size = w.heap.size + 1 := by rw [hw1]; simp
  rw [← hw1] at HR ⊢
  have HXC := Lib.hid (show w1.heap[w.heap.size]? = some (.cells #[.int .i64 x.id, .int .i64 x.wt, .int .i64 x.df, .slice xa x.its.length xc] 157 (0, 0)) by rw [hw1]; exact fr_alloc_at)
  have HB1 := Lib.hid (show Below w.heap.size w w1 by rw [hw1]; exact box_below)
  have HST := Lib.hid (show (w1.alloc (.cells #[] 157)).ownsRow w1.heap.size 157 4 (.slice (some ⟨w1.heap.size, 0, none⟩) 0 0) 0 [] from own_empty (Nat.le_refl _))
  have HZ1 := Lib.hid hz1
  rw [← hz1]
  clear hw1 hz1
  go_loopg [7, 6] l.length (fun g i ov wr => ∃ m : Nat, g = l.length - m ∧ i = .int .i64 m ∧ m ≤ l.length ∧ wr.ownsRow w1.heap.size 157 4 ov (builtV k (x, .slice xa x.its.length xc) l m).length (flatRV (builtV k (x, .slice xa x.its.length xc) l m)) ∧ Below w1.heap.size w1 wr)
  case atStart => exact ⟨0, rfl, rfl, Nat.zero_le _, by unfold builtV; rw [if_pos (Nat.zero_le _)]; exact HST.out, box_below⟩
  case round =>
    obtain ⟨m, hg, rfl, hm, ho, hb⟩ := hrel
    have HG := Lib.hid hg
    have HO := Lib.hid ho
    have HB := Lib.hid hb
    clear hg ho hb
    have hh := (HB.out.block b (fp_lt_of_heap HR.out.head)).trans HR.out.head
    have b1 : wr.cell? ⟨b, 4, none⟩ = some (.slice a l.length cap) := fr_cell_of_heap hh rfl
    have HH := Lib.hid hh
    have hxc := (HB.out.block w.heap.size (fp_lt_of_heap HXC.out)).trans HXC.out
    have HXC2 := Lib.hid hxc
    have hlen := built_len (k := k) (i := m) (p := (x, .slice xa x.its.length xc)) (l := l)
    have hf := HF.out
    have hc1 : w1.heap.size ≤ wr.heap.size := HB.out.size
    have hc2 : (builtV k (x, .slice xa x.its.length xc) l m).length < 140737488355328 := by omega
    have hc3 : ((builtV k (x, .slice xa x.its.length xc) l m).length + 1) * 48 ≤ 140737488355328 := by omega
    clear hh hxc hlen
    by_cases hlt : m < l.length
    · have hml : (m : Int) < (l.length : Int) := by omega
      obtain ⟨p, hp⟩ : ∃ p, l[m]? = some p := ⟨_, List.getElem?_eq_getElem hlt⟩
      by_cases hmk : m = k
      · have hne : ((m : Int) != (k : Int)) = false := by simp [hmk]
        have HBS := Lib.hid (show builtV k (x, .slice xa x.its.length xc) l (m + 1) = builtV k (x, .slice xa x.its.length xc) l m ++ (if x.its = [] then [] else [(x, .slice xa x.its.length xc)]) by rw [hmk]; exact built_same HK.out)
        have x0 : wr.cell? ⟨w.heap.size, 0, none⟩ = some (.int .i64 x.id) := fr_cell_of_heap HXC2.out rfl
        have x1 : wr.cell? ⟨w.heap.size, 1, none⟩ = some (.int .i64 x.wt) := fr_cell_of_heap HXC2.out rfl
        have x2 : wr.cell? ⟨w.heap.size, 2, none⟩ = some (.int .i64 x.df) := fr_cell_of_heap HXC2.out rfl
        have x3 : wr.cell? ⟨w.heap.size, 3, none⟩ = some (.slice xa x.its.length xc) := fr_cell_of_heap HXC2.out rfl
        obtain ⟨D, hD⟩ : ∃ D, D = builtV k (x, .slice xa x.its.length xc) l m := ⟨_, rfl⟩
        rw [← hD] at hc2 hc3 HO HBS
        clear hp hmk hD
        by_cases hxe : x.its = []
        · have hgt : ¬ (0 : Int) < (x.its.length : Int) := by rw [hxe]; simp
          have HBS2 := Lib.hid (show builtV k (x, .slice xa x.its.length xc) l (m + 1) = D by rw [HBS.out, if_pos hxe, List.append_nil])
          clear hxe
          go_wp2_with fail
          go_roundg (l.length - (m + 1))
          case rel => exact ⟨m + 1, rfl, by go_num, by omega, by rw [HBS2.out]; exact HO.out, HB.out⟩
          case measure => have := HG.out; omega
        · have hgt : (0 : Int) < (x.its.length : Int) := by have := List.length_pos_iff.2 hxe; omega
          have HBS2 := Lib.hid (show builtV k (x, .slice xa x.its.length xc) l (m + 1) = D ++ [(x, .slice xa x.its.length xc)] by rw [HBS.out, if_neg hxe])
          clear hxe
          go_wp2_with (at_builtin; refine wpList_append_at (us := #[.int .i64 x.id, .int .i64 x.wt, .int .i64 x.df, .slice xa x.its.length xc]) rfl _ _ 102 rfl w1.heap.size _ 4 48 Tryz.underlying102 rrow_info rfl (by decide) u6 D.length (flatRV D) rfl HO.out rfl rfl (by simp [Value.oneCell']) ?c1 ?c2 ?c3 ?_; (case c1 => exact hc1); (case c2 => exact hc2); (case c3 => exact hc3); intro gg gcap w3 ho3 hg3 hat3)
          have HO3 := Lib.hid ho3
          have HB3 := Lib.hid (HB.out.trans ⟨hg3.os, hg3.tape, hg3.output, hg3.size, fun j hj => hg3.block j (by omega) (fun e => by have := own_block HO.out j e.symm; omega)⟩ : Below w1.heap.size w1 w3)
          clear ho3 hg3 hat3
          go_wp2_with fail
          go_roundg (l.length - (m + 1))
          case rel => exact ⟨m + 1, rfl, by go_num, by omega, by rw [HBS2.out, List.length_append, flatRV_snoc]; exact HO3.out, HB3.out⟩
          case measure => have := HG.out; omega
      · have hne : ((m : Int) != (k : Int)) = true := by simp; omega
        have HBS := Lib.hid (built_other (p := (x, .slice xa x.its.length xc)) hp hmk)
        obtain ⟨g, off, cap', hv, _, c0, c1, c2, c3⟩ := (HR.out.rows.below (HB.out.mono (Nat.le_refl _))).at hp
        cases hv
        obtain ⟨pa, pc, hpv⟩ := its_form (HR.out.rows.its p (List.mem_of_getElem? hp))
        rw [hpv] at c3
        have HPV := Lib.hid hpv
        obtain ⟨D, hD⟩ : ∃ D, D = builtV k (x, .slice xa x.its.length xc) l m := ⟨_, rfl⟩
        rw [← hD] at hc2 hc3 HO HBS
        clear hp hmk hD hpv
        go_wp2_with (at_builtin; refine wpList_append_at (us := #[.int .i64 p.1.id, .int .i64 p.1.wt, .int .i64 p.1.df, .slice pa p.1.its.length pc]) rfl _ _ 102 rfl w1.heap.size _ 4 48 Tryz.underlying102 rrow_info rfl (by decide) u6 D.length (flatRV D) rfl HO.out rfl rfl (by simp [Value.oneCell']) ?c1 ?c2 ?c3 ?_; (case c1 => exact hc1); (case c2 => exact hc2); (case c3 => exact hc3); intro gg gcap w3 ho3 hg3 hat3)
        have HO3 := Lib.hid ho3
        have HB3 := Lib.hid (HB.out.trans ⟨hg3.os, hg3.tape, hg3.output, hg3.size, fun j hj => hg3.block j (by omega) (fun e => by have := own_block HO.out j e.symm; omega)⟩ : Below w1.heap.size w1 w3)
        clear ho3 hg3 hat3
        go_wp2_with fail
        go_roundg (l.length - (m + 1))
        case rel => exact ⟨m + 1, rfl, by go_num, by omega, by rw [HBS.out, List.length_append, flatRV_snoc, show encRV p = [.int .i64 p.1.id, .int .i64 p.1.wt, .int .i64 p.1.df, .slice pa p.1.its.length pc] by unfold encRV; rw [HPV.out]]; exact HO3.out, HB3.out⟩
        case measure => have := HG.out; omega
    · obtain rfl : m = l.length := by omega
      obtain ⟨ua, uc, hu, hul, -⟩ := own_cells HO.out
      have HW := Lib.hid (show wr.ownsRow w1.heap.size 157 4 u6 (withV k (x, .slice xa x.its.length xc) gv l).2.length (flatRV (withV k (x, .slice xa x.its.length xc) gv l).2) by rw [← built_all HK.out]; exact HO.out)
      obtain ⟨n, hn⟩ : ∃ n, n = (builtV k (x, .slice xa x.its.length xc) l l.length).length := ⟨_, rfl⟩
      rw [← hn] at hu
      subst hu
      have HBB := Lib.hid (HB1.out.trans (HB.out.mono HB1.out.size) : Below w.heap.size w wr)
      have x3 : wr.cell? ⟨w.heap.size, 3, none⟩ = some (.slice xa x.its.length xc) := fr_cell_of_heap HXC2.out rfl
      have b2 : wr.cell? ⟨b, 5, none⟩ = some (.bool gv) := fr_cell_of_heap HH.out rfl
      have f1 : wr.frozen? ⟨b, 4, none⟩ = false := fr_free_of_heap HH.out
      have f2 : wr.frozen? ⟨b, 5, none⟩ = false := fr_free_of_heap HH.out
      clear hn hul hc1 hc2 hc3
      by_cases hc : k = 0 ∧ x.its = []
      · have hk0 : ((k : Int) == 0) = true := by simp [hc.1]
        have hx0 : ((x.its.length : Int) == 0) = true := by simp [hc.2]
        have HG1 := Lib.hid (show (withV k (x, .slice xa x.its.length xc) gv l).1 = false by unfold withV; rw [if_pos hc.2, if_pos hc.1])
        clear hc
        go_upto_region 11 with fail
        obtain ⟨w2, hw2⟩ : ∃ w2 : World, w2 = wr.setCell ⟨b, 5, none⟩ (.bool false) := ⟨_, rfl⟩
        have hh2 : w2.heap[b]? = some (.cells #[ro0, ro1, ro2, .int .i64 q, .slice a l.length cap, .bool false] 106 (0, 0)) := by rw [hw2]; exact fr_setCell_at HH.out
        have HF2 := Lib.hid (show Fp (fun j => j = b) wr w2 by rw [hw2]; exact (Fp.refl (fun j => j = b) wr).setCell (p := ⟨b, 5, none⟩) (fun _ => rfl) _)
        rw [← hw2]
        clear hw2 b1 b2 f1 f2 x3
        have HH2 := Lib.hid hh2
        have b1 : w2.cell? ⟨b, 4, none⟩ = some (.slice a l.length cap) := fr_cell_of_heap hh2 rfl
        have f1 : w2.frozen? ⟨b, 4, none⟩ = false := fr_free_of_heap hh2
        clear hh2
        go_wp2_with fail
        go_end0
        exact with_closeB HR0.out HBB.out HX.out HXB.out HXF.out HW.out (by have := HZ1.out; omega) (HF2.out.setCell (p := ⟨b, 4, none⟩) (fun _ => rfl) _) (by rw [HG1.out]; exact fr_setCell_at HH2.out)
      · have HG1 := Lib.hid (show (withV k (x, .slice xa x.its.length xc) gv l).1 = gv by
          unfold withV
          by_cases h1 : x.its = []
          · rw [if_pos h1]
            exact if_neg (fun e => hc ⟨e, h1⟩)
          · rw [if_neg h1])
        rcases hk0 : ((k : Int) == 0) with _ | _
        · clear hc
          go_wp2_with fail
          go_end0
          exact with_closeB HR0.out HBB.out HX.out HXB.out HXF.out HW.out (by have := HZ1.out; omega) ((Fp.refl (fun j => j = b) wr).setCell (p := ⟨b, 4, none⟩) (fun _ => rfl) _) (by rw [HG1.out]; exact fr_setCell_at HH.out)
        · have hx0 : ((x.its.length : Int) == 0) = false := by
            rw [beq_eq_false_iff_ne]
            intro e
            exact hc ⟨by simpa using hk0, List.length_eq_zero_iff.1 (by omega)⟩
          clear hc
          go_wp2_with fail
          go_end0
          exact with_closeB HR0.out HBB.out HX.out HXB.out HXF.out HW.out (by have := HZ1.out; omega) ((Fp.refl (fun j => j = b) wr).setCell (p := ⟨b, 4, none⟩) (fun _ => rfl) _) (by rw [HG1.out]; exact fr_setCell_at HH.out)
end Go.Proofs.YtdbjihkgafhakaaGreatDoor
/-
  ref15 (flows), inside a tenant's row: printed by refb_gen.py out of the walks of a ring of its own.
-/
namespace Go.Proofs.YtdbjihkgafhakaaGreatDoor
open Go.RowKit
variable {G : Nat → Prop} {ro0 ro1 ro2 : Value}
structure PStateB (G : Nat → Prop) (ro0 ro1 ro2 : Value) (b : Nat) (q : Int) (gv0 : Bool) (rows0 : List FRow) (w : World) (g : Nat) (gv : Bool) (v : Value) (l : List (FRow × Value)) (wr : World) : Prop where
  less : g = roundM gv ((l.map Prod.fst).map ndOf)
  ref : RefBt G ro0 ro1 ro2 wr b q gv v l
  ok : RowsOk gv (l.map Prod.fst)
  same : ∀ l2, PicksR q gv (l.map Prod.fst) l2 → PicksR q gv0 rows0 l2
  fp : Fp (fun j => j = b) w wr
def RPPostB (G : Nat → Prop) (ro0 ro1 ro2 : Value) (b : Nat) (q : Int) (gv : Bool) (rows : List FRow) (w : World) (e : Ending) (w' : World) : Prop :=
  e = .returned (.bool true) ∧ ∃ v' l', RefBt G ro0 ro1 ro2 w' b q true v' l' ∧ PicksR q gv rows (l'.map Prod.fst) ∧ Fp (fun j => j = b) w w'
theorem rot_closeB {w4 wa : World} {b : Nat} {q : Int} {gv : Bool} {v2 v3 : Value} {p : FRow × Value} {r : List (FRow × Value)} (hR : RefBt G ro0 ro1 ro2 w4 b q gv v2 (p :: r)) (hL : Laid2 157 4 w4 v3 (r.length + 1) (flatRV r ++ encRV p) wa) :
    RefBt G ro0 ro1 ro2 (wa.setCell ⟨b, 4, none⟩ v3) b q gv v3 (r ++ [p]) ∧ Fp (fun j => j = b) w4 (wa.setCell ⟨b, 4, none⟩ v3) := by
  have hbw := fp_lt_of_heap hR.head
  have hF : Fp (fun j => j = b) wa (wa.setCell ⟨b, 4, none⟩ v3) := (Fp.refl (fun j => j = b) wa).setCell (p := ⟨b, 4, none⟩) (fun _ => rfl) _
  have hsz := Nat.le_trans hL.below.size hF.size
  have hvg : InG G (wa.setCell ⟨b, 4, none⟩ v3) v3 := (own_inG hL.own (fun k hk => hR.up k hk)).grow hF.size
  have hv3 : v3.ownBlock ≠ some b := hvg.not hR.nb
  have hm : ∀ y ∈ r ++ [p], y ∈ p :: r := fun y hy => by
    rcases List.mem_append.1 hy with hy | hy
    · exact List.mem_cons_of_mem _ hy
    · rw [List.mem_singleton] at hy
      subst hy
      exact List.mem_cons_self
  refine ⟨⟨fr_setCell_at ((hL.below.block b hbw).trans hR.head), ?_, fun _ => hvg, fun y hy => (hR.ig y (hm y hy)).grow hsz, hR.nb, fun k hk => hR.up k (Nat.le_trans hsz hk), by have := hR.few; simp at this ⊢; omega, fun y hy => hR.fews y (hm y hy)⟩, (Fp.of_below hL.below).trans hF (fun _ _ h => h)⟩
  refine (rows_own (l := r ++ [p]) (by rw [List.length_append, flatRV_snoc]; exact hL.own) (fun y hy => (hR.rows.its y (hm y hy)).below hL.below)).fp hF (fun j hj e => hv3 (e ▸ hj)) (fun y hy j hj e => hR.ni y (hm y hy) (e ▸ hj))
theorem ref_givenB {w : World} {b : Nat} {q : Int} {gv : Bool} {v : Value} {l : List (FRow × Value)} (h : RefBt G ro0 ro1 ro2 w b q gv v l) (g' : Bool) : RefBt G ro0 ro1 ro2 (w.setCell ⟨b, 5, none⟩ (.bool g')) b q g' v l := by
  have hF : Fp (fun j => j = b) w (w.setCell ⟨b, 5, none⟩ (.bool g')) := (Fp.refl (fun j => j = b) w).setCell (p := ⟨b, 5, none⟩) (fun _ => rfl) _
  exact ⟨fr_setCell_at h.head, h.rows.fp' hF (fun hl j hj e => h.nv hl (e ▸ hj)) (fun p hp j hj e => h.ni p hp (e ▸ hj)), fun hl => (h.vg hl).grow hF.size, fun p hp => (h.ig p hp).grow hF.size, h.nb, fun k hk => h.up k (Nat.le_trans hF.size hk), h.few, h.fews⟩
set_option maxRecDepth 100000 in
set_option maxHeartbeats 8000000 in
theorem r15Pick_consB (b : Nat) (q : Int) (gv : Bool) (v : Value) (l : List (FRow × Value)) (w : World) (h : RefBt G ro0 ro1 ro2 w b q gv v l) (hne : l ≠ []) (hq1 : 1 ≤ q) (hq : q ≤ 64) (hok : RowsOk gv (l.map Prod.fst)) :
    Calls Tryz.prog 128 #[.pointer (some ⟨b, 3, none⟩)] w (RPPostB G ro0 ro1 ro2 b q gv (l.map Prod.fst) w) := by
  have HST := Lib.hid (show PStateB G ro0 ro1 ro2 b q gv (l.map Prod.fst) w (roundM gv ((l.map Prod.fst).map ndOf)) gv v l w from ⟨rfl, h, hok, fun _ h => h, Fp.refl _ _⟩)
  have HQ1 := Lib.hid hq1
  have HQ := Lib.hid hq
  obtain ⟨a, cap, rfl, -⟩ := h.rows.form
  have b1 : w.cell? ⟨b, 4, none⟩ = some (.slice a l.length cap) := fr_cell_of_heap h.head rfl
  have hz : ((l.length : Int) == 0) = false := by
    rw [beq_eq_false_iff_ne]
    have := List.length_pos_iff.2 hne
    omega
  have HNE := Lib.hid hne
  clear h hok hq1 hq hne
  go_enter Tryz.func128, Tryz.ntmps128
  go_wp2_with fail
  go_loopg [] (roundM gv ((l.map Prod.fst).map ndOf)) (fun g wr => ∃ gv' v' l', l' ≠ [] ∧ PStateB G ro0 ro1 ro2 b q gv (l.map Prod.fst) w g gv' v' l' wr)
  case atStart => exact ⟨gv, _, l, HNE.out, HST.out⟩
  case round =>
    obtain ⟨gv', v', l', hne', hS⟩ := hrel
    obtain ⟨p, r, rfl⟩ : ∃ p r, l' = p :: r := by
      cases l' with
      | nil => exact absurd rfl hne'
      | cons p r => exact ⟨p, r, rfl⟩
    have HS := Lib.hid hS
    clear hS hne' b1 hz
    obtain ⟨gb, off, cap', hv, hcap, c0, c1, c2, c3⟩ := HS.out.ref.rows.at (k := 0) (p := p) rfl
    obtain ⟨pa, pc, hpv⟩ := its_form (HS.out.ref.rows.its p List.mem_cons_self)
    have HV := Lib.hid hv
    have HPV := Lib.hid hpv
    rw [hpv] at c3
    simp only [Nat.zero_mul, Nat.add_zero] at c0 c1 c2 c3
    have b1 : wr.cell? ⟨b, 4, none⟩ = some (.slice (some ⟨gb, off, none⟩) (r.length + 1) cap') := by rw [← List.length_cons (a := p), ← hv]; exact fr_cell_of_heap HS.out.ref.head rfl
    have b2 : wr.cell? ⟨b, 5, none⟩ = some (.bool gv') := fr_cell_of_heap HS.out.ref.head rfl
    clear hv hpv
    go_upto_region 4 with fail
    obtain ⟨w1, hw1⟩ : ∃ w1 : World, w1 = wr.alloc (.cells #[.int .i64 p.1.id, .int .i64 p.1.wt, .int .i64 p.1.df, .slice pa p.1.its.length pc] 157) := ⟨_, rfl⟩
    obtain ⟨bx, hbx⟩ : ∃ bx : Nat, bx = wr.heap.size := ⟨_, rfl⟩
    rw [← hw1, ← hbx]
    have HX1 := Lib.hid (show w1.heap[bx]? = some (.cells #[.int .i64 p.1.id, .int .i64 p.1.wt, .int .i64 p.1.df, .slice pa p.1.its.length pc] 157 (0, 0)) by rw [hw1, hbx]; exact fr_alloc_at)
    have HR1 := Lib.hid (show RefBt G ro0 ro1 ro2 w1 b q gv' v' (p :: r) by rw [hw1]; exact HS.out.ref.below box_below)
    have HF1 := Lib.hid (show Fp (fun j => j = b) w w1 by rw [hw1]; exact HS.out.fp.alloc _)
    have HBX := Lib.hid (show bx ≠ b by have := fp_lt_of_heap HS.out.ref.head; omega)
    have hbxw : w.heap.size ≤ bx := by rw [hbx]; exact HS.out.fp.size
    have HXV := Lib.hid (show ∀ j, v'.ownBlock = some j → ¬ j = bx from fun j hj e => by rw [hbx] at e; have := rows_lt HS.out.ref.rows.rows (by simp) j hj; omega)
    have HXI := Lib.hid (show ∀ p' ∈ p :: r, ∀ j, p'.2.ownBlock = some j → ¬ j = bx from fun p' hp' j hj e => by
      rw [hbx] at e
      have h1 := HS.out.ok.full p'.1 (List.mem_map_of_mem hp')
      obtain ⟨y, ys, hy, _⟩ := h1
      have := its_lt (HS.out.ref.rows.its p' hp') (by rw [hy]; simp) j hj
      omega)
    clear hw1 hbx c0 c1 c2 c3 b1 b2
    have b2 : w1.cell? ⟨b, 5, none⟩ = some (.bool gv') := fr_cell_of_heap HR1.out.head rfl
    go_upto_if 20 with fail
    go_cut [3] (fun s wx => s = .pointer (some ⟨bx, 0, none⟩) ∧ (∃ v2, RefBt G ro0 ro1 ro2 wx b q true v2 ((chargeR q gv' p.1, .slice pa p.1.its.length pc) :: r)) ∧ Fp (fun j => j = b) w wx ∧ wx.heap[bx]? = some (.cells #[.int .i64 p.1.id, .int .i64 p.1.wt, .int .i64 (chargeR q gv' p.1).df, .slice pa p.1.its.length pc] 157 (0, 0)))
    case first =>
      have hpp : p = (p.1, .slice pa p.1.its.length pc) := by rw [← HPV.out]
      have HPP := Lib.hid hpp
      clear hpp
      rcases gv' with _ | _
      · have x1 : w1.cell? ⟨bx, 1, none⟩ = some (.int .i64 p.1.wt) := fr_cell_of_heap HX1.out rfl
        have x2 : w1.cell? ⟨bx, 2, none⟩ = some (.int .i64 p.1.df) := fr_cell_of_heap HX1.out rfl
        have b0 : w1.cell? ⟨b, 3, none⟩ = some (.int .i64 q) := fr_cell_of_heap HR1.out.head rfl
        have f2 : w1.frozen? ⟨bx, 2, none⟩ = false := fr_free_of_heap HX1.out
        have hg := HS.out.ok.nds.1
        have hm := mul_le_of HQ1.out HQ.out hg.1 hg.2.1
        have hw1 : wrap64 (q * p.1.wt) = q * p.1.wt := by have e : (ndOf p.1).wt = p.1.wt := rfl; rw [e] at hm; unfold wrap64; omega
        have hw2 : wrap64 (p.1.df + q * p.1.wt) = p.1.df + q * p.1.wt := by
          have e : (ndOf p.1).wt = p.1.wt := rfl
          rw [e] at hm
          have h3 : 0 ≤ p.1.df := hg.2.2.1
          have h4 : p.1.df ≤ if false = true then 2112 else 1088 := hg.2.2.2
          simp at h4
          unfold wrap64
          omega
        clear hg hm
        go_upto_region 5 with fail
        go_region
        clear x1 x2 b0 f2 b2
        go_upto_region 6 with fail
        obtain ⟨w2, hw2'⟩ : ∃ w2 : World, w2 = (w1.setCell ⟨bx, 2, none⟩ (.int .i64 (p.1.df + q * p.1.wt))).drew := ⟨_, rfl⟩
        rw [← hw2']
        have hF2 : Fp (fun j => j = bx) w1 w2 := by rw [hw2']; exact ((Fp.refl (fun j => j = bx) w1).setCell (p := ⟨bx, 2, none⟩) (fun _ => rfl) _).drew
        have HX2 := Lib.hid (show w2.heap[bx]? = some (.cells #[.int .i64 p.1.id, .int .i64 p.1.wt, .int .i64 (p.1.df + q * p.1.wt), .slice pa p.1.its.length pc] 157 (0, 0)) by rw [hw2']; exact fr_setCell_at HX1.out)
        have HR2 := Lib.hid (HR1.out.fp hF2 (fun e => HBX.out e.symm) (HXV.out) (fun p hp => HXI.out p hp))
        have HF2 := Lib.hid (show Fp (fun j => j = b) w w2 from HF1.out.trans hF2 (fun j hj e => by omega))
        have y0 : w2.cell? ⟨bx, 0, none⟩ = some (.int .i64 p.1.id) := fr_cell_of_heap HX2.out rfl
        have y1 : w2.cell? ⟨bx, 1, none⟩ = some (.int .i64 p.1.wt) := fr_cell_of_heap HX2.out rfl
        have y2 : w2.cell? ⟨bx, 2, none⟩ = some (.int .i64 (p.1.df + q * p.1.wt)) := fr_cell_of_heap HX2.out rfl
        have y3 : w2.cell? ⟨bx, 3, none⟩ = some (.slice pa p.1.its.length pc) := fr_cell_of_heap HX2.out rfl
        clear hw1 hw2 hw2' hF2
        go_wp2_with fail
        have hwith := r15With_anyB b q false v' (p :: r) 0 (chargeR q false p.1) (.slice pa p.1.its.length pc) w2 HR2.out (by simp) (by have h := HR2.out.rows.its p List.mem_cons_self; rw [HPV.out] at h; exact h) (by have h := HR2.out.ig p List.mem_cons_self; rw [HPV.out] at h; exact h) (HR2.out.fews p List.mem_cons_self)
        refine hwith.mono ?_
        rintro e w3 ⟨rfl, hF3, v3, hR3⟩
        have hwv : withV 0 (chargeR q false p.1, .slice pa p.1.its.length pc) false (p :: r) = (false, (chargeR q false p.1, .slice pa p.1.its.length pc) :: r) := by
          obtain ⟨y, ys, hy, _⟩ := HS.out.ok.full p.1 List.mem_cons_self
          unfold withV
          rw [if_neg (show ¬ (chargeR q false p.1).its = [] by rw [(chargeR_its q false p.1).1, hy]; simp)]
          rfl
        rw [hwv] at hR3
        have HX3 := Lib.hid (hF3.heap HX2.out HBX.out)
        have HF3 := Lib.hid (HF2.out.trans hF3 (fun _ _ h => h))
        have HR3 := Lib.hid hR3
        have b2 : w3.cell? ⟨b, 5, none⟩ = some (.bool false) := fr_cell_of_heap hR3.head rfl
        have f2 : w3.frozen? ⟨b, 5, none⟩ = false := fr_free_of_heap hR3.head
        clear hwith hF3 hR3 hwv y0 y1 y2 y3
        go_wp2_with fail
        go_meet
        case rel => exact ⟨rfl, ⟨v3, ref_givenB HR3.out true⟩, HF3.out.setCell (p := ⟨b, 5, none⟩) (fun _ => rfl) _, (fr_setCell_other HBX.out).trans HX3.out⟩
      · go_wp2_with fail
        go_meet
        case rel =>
          refine ⟨rfl, ⟨v', ?_⟩, HF1.out, HX1.out⟩
          rw [show chargeR q true p.1 = p.1 from rfl, ← HPP.out]
          exact HR1.out
    case rest =>
      obtain ⟨rfl, ⟨v2, hR2⟩, hF2, hX2⟩ := hcut
      obtain ⟨y, ys, hy, hyc⟩ := HS.out.ok.full p.1 List.mem_cons_self
      obtain ⟨x', hx'⟩ : ∃ x', x' = chargeR q gv' p.1 := ⟨_, rfl⟩
      have hch := chargeR_its q gv' p.1
      rw [← hx'] at hR2 hX2 hch
      rw [← hch.1, ← hch.2.1, ← hch.2.2] at hX2
      have hxi : x'.its = y :: ys := by rw [hch.1, hy]
      rw [← hch.1] at hR2
      have hit := hR2.rows.its _ List.mem_cons_self
      simp only at hit
      obtain ⟨gi, offi, ci, hpv, i0, i1⟩ := its_at hit (k := 0) (x := y) (by rw [hxi]; rfl)
      simp only [Nat.zero_mul, Nat.add_zero] at i0 i1
      cases hpv
      have HX' := Lib.hid hx'
      have HXI' := Lib.hid hxi
      have HR2 := Lib.hid hR2
      have HF2 := Lib.hid hF2
      have HX2 := Lib.hid hX2
      have HCH := Lib.hid hch
      have z2 : wc.cell? ⟨bx, 2, none⟩ = some (.int .i64 x'.df) := fr_cell_of_heap hX2 rfl
      have z3 : wc.cell? ⟨bx, 3, none⟩ = some (.slice (some ⟨gi, offi, none⟩) x'.its.length pc) := fr_cell_of_heap hX2 rfl
      have hpos : (0 : Int) < (x'.its.length : Int) := by rw [hxi]; simp
      clear hx' hxi hR2 hF2 hX2 hch hit i0 b2
      by_cases hle : y.cost ≤ x'.df
      · have hd : decide (y.cost ≤ x'.df) = true := decide_eq_true hle
        have HLE := Lib.hid hle
        clear hle
        go_upto_region 8 with fail
        go_quiet (fail)
        go_wp2_with fail
        go_ret
        refine ⟨rfl, v2, _, HR2.out.below ⟨rfl, rfl, rfl, Nat.le_refl _, fun _ _ => rfl⟩, HS.out.same _ ?_, HF2.out.then_below ⟨rfl, rfl, rfl, Nat.le_refl _, fun _ _ => rfl⟩⟩
        rw [List.map_cons, List.map_cons]
        show PicksR q gv' (p.1 :: r.map Prod.fst) (x' :: r.map Prod.fst)
        have h := HX'.out
        subst h
        refine .grant ?_
        rw [← HCH.out.1, HXI'.out]
        exact HLE.out
      · have hd : decide (y.cost ≤ x'.df) = false := decide_eq_false hle
        have HLE := Lib.hid hle
        clear hle
        go_upto_region 8 with fail
        go_quiet (fail)
        go_upto_region 10 with fail
        obtain ⟨w4, hw4⟩ : ∃ w4 : World, w4 = wc.drewN nq := ⟨_, rfl⟩
        rw [← hw4]
        have hbel : Below wc.heap.size wc w4 := by rw [hw4]; exact below_drewN (Below.refl _ _) nq
        have hR4 := HR2.out.below hbel
        have hX4 := (hbel.block bx (fp_lt_of_heap HX2.out)).trans HX2.out
        have hF4 := HF2.out.then_below hbel
        obtain ⟨tv, hsl, hsrc⟩ := tail_src hR4.rows
        obtain ⟨i0', hi0, hz0, hz1', hz2'⟩ := info_parts rrow_info
        have hrl : r.length < 1000000 := by have := hR4.few; simp at this; omega
        obtain ⟨⟨v1', w5, ga, ca, wa, r1, r2, hLa, hba⟩, ⟨v2', w6, gb', cb, wb, r3, r4, hLb, hbb⟩, ⟨v3', w7, gc, cc, wcc, r5, r6, hLc, hbc⟩⟩ :=
          copy_snoc_runs (P := Tryz.prog) w4 102 102 102 157 i0' _ 4 48 Tryz.underlying102 hi0 hz0 hz1' hz2' rfl (by decide) (v := tv) (n := r.length) (xs := flatRV r) (us := encRV (x', .slice (some ⟨gi, offi, none⟩) x'.its.length pc)) hsrc (flatRV_one (w := w4) (fun p' hp' => hR4.rows.its p' (List.mem_cons_of_mem _ hp'))) rfl (by simp [encRV, Value.oneCell']) hrl (by omega)
        have HR4 := Lib.hid hR4
        have HX4 := Lib.hid hX4
        have HF4 := Lib.hid hF4
        have HLA := Lib.hid hLa
        have HLB := Lib.hid hLb
        have HLC := Lib.hid hLc
        have hbw4 := fp_lt_of_heap hR4.head
        have hxw4 := fp_lt_of_heap hX4
        have b1 : w4.cell? ⟨b, 4, none⟩ = some v2 := fr_cell_of_heap hR4.head rfl
        have q0 : w4.cell? ⟨bx, 0, none⟩ = some (.int .i64 x'.id) := fr_cell_of_heap hX4 rfl
        have q1 : w4.cell? ⟨bx, 1, none⟩ = some (.int .i64 x'.wt) := fr_cell_of_heap hX4 rfl
        have q2 : w4.cell? ⟨bx, 2, none⟩ = some (.int .i64 x'.df) := fr_cell_of_heap hX4 rfl
        have q3 : w4.cell? ⟨bx, 3, none⟩ = some (.slice (some ⟨gi, offi, none⟩) x'.its.length pc) := fr_cell_of_heap hX4 rfl
        have q0a := cell_below hba q0
        have q1a := cell_below hba q1
        have q2a := cell_below hba q2
        have q3a := cell_below hba q3
        have q0b := cell_below hbb q0
        have q1b := cell_below hbb q1
        have q2b := cell_below hbb q2
        have q3b := cell_below hbb q3
        have q0c := cell_below hbc q0
        have q1c := cell_below hbc q1
        have q2c := cell_below hbc q2
        have q3c := cell_below hbc q3
        have hha := (hLa.below.block b hbw4).trans hR4.head
        have hhb := (hLb.below.block b hbw4).trans hR4.head
        have hhc := (hLc.below.block b hbw4).trans hR4.head
        have ka1 : wa.cell? ⟨b, 4, none⟩ = some v2 := fr_cell_of_heap hha rfl
        have kb1 : wb.cell? ⟨b, 4, none⟩ = some v2 := fr_cell_of_heap hhb rfl
        have kc1 : wcc.cell? ⟨b, 4, none⟩ = some v2 := fr_cell_of_heap hhc rfl
        have fa1 : wa.frozen? ⟨b, 4, none⟩ = false := fr_free_of_heap hha
        have fb1 : wb.frozen? ⟨b, 4, none⟩ = false := fr_free_of_heap hhb
        have fc1 : wcc.frozen? ⟨b, 4, none⟩ = false := fr_free_of_heap hhc
        clear hba hbb hbc hLa hLb hLc hi0 hz0 hz1' hz2' hha hhb hhc hR4 hX4 hF4 hw4 hbel hsrc i1 z2 z3 hpos hrl hyc hy
        simp only [encRV] at r2 r3 r4 r5 r6
        simp [go_sem] at r1 r2 r3 r4 r5 r6 hsl
        go_cut [] (fun wx => (∃ v3, RefBt G ro0 ro1 ro2 wx b q true v3 (r ++ [(x', .slice (some ⟨gi, offi, none⟩) x'.its.length pc)])) ∧ Fp (fun j => j = b) w wx)
        case first =>
          go_region
          all_goals
            clear r1 r2 r3 r4 r5 r6
            go_wp2_with fail
            go_meet
          all_goals
            first
            | exact ⟨⟨_, (rot_closeB HR4.out HLA.out).1⟩, HF4.out.trans (rot_closeB HR4.out HLA.out).2 (fun _ _ h => h)⟩
            | exact ⟨⟨_, (rot_closeB HR4.out HLB.out).1⟩, HF4.out.trans (rot_closeB HR4.out HLB.out).2 (fun _ _ h => h)⟩
            | exact ⟨⟨_, (rot_closeB HR4.out HLC.out).1⟩, HF4.out.trans (rot_closeB HR4.out HLC.out).2 (fun _ _ h => h)⟩
        case rest =>
          obtain ⟨⟨v3, hR5⟩, hF5⟩ := hcut
          have HR5 := Lib.hid hR5
          have HF5 := Lib.hid hF5
          have hmap : (r ++ [(x', Value.slice (some ⟨gi, offi, none⟩) x'.its.length pc)]).map Prod.fst = r.map Prod.fst ++ [chargeR q gv' p.1] := by rw [List.map_append, HX'.out]; rfl
          have hno : ¬ headC p.1.its ≤ (chargeR q gv' p.1).df := by
            rw [← HX'.out, ← HCH.out.1, HXI'.out]
            exact HLE.out
          have HMAP := Lib.hid hmap
          have HNO := Lib.hid hno
          have HROT := Lib.hid (RowsOk.rotate HQ1.out HQ.out HS.out.ok hno)
          have b2 : wc.cell? ⟨b, 5, none⟩ = some (.bool true) := fr_cell_of_heap hR5.head rfl
          have f2 : wc.frozen? ⟨b, 5, none⟩ = false := fr_free_of_heap hR5.head
          clear hR5 hF5 hmap hno hsl b1 q0 q1 q2 q3 q0a q1a q2a q3a q0b q1b q2b q3b q0c q1c q2c q3c ka1 kb1 kc1 fa1 fb1 fc1 r1 r2 r3 r4 r5 r6
          go_wp2_with fail
          go_roundg (roundM false (((r ++ [(x', Value.slice (some ⟨gi, offi, none⟩) x'.its.length pc)]).map Prod.fst).map ndOf))
          case rel =>
            refine ⟨false, v3, _, by simp, ⟨rfl, ref_givenB HR5.out false, ?_, fun l2 h2 => HS.out.same l2 (.rotate (Int.not_le.2 HNO.out) ?_), HF5.out.setCell (p := ⟨b, 5, none⟩) (fun _ => rfl) _⟩⟩
            · rw [HMAP.out]
              exact HROT.out.1
            · rw [HMAP.out] at h2
              exact h2
          case measure =>
            rw [HS.out.less, HMAP.out]
            exact HROT.out.2
end Go.Proofs.YtdbjihkgafhakaaGreatDoor
/-
  ref15 (flows), inside a tenant's row: printed by refb_gen.py out of the walks of a ring of its own.
-/
namespace Go.Proofs.YtdbjihkgafhakaaGreatDoor
open Go.RowKit
variable {G : Nat → Prop} {ro0 ro1 ro2 : Value}
theorem RefBt.box {w w' : World} {b o : Nat} {q : Int} {gv : Bool} {v u t : Value} {T : TypeId} {l : List (FRow × Value)} (h : RefBt G ro0 ro1 ro2 w b q gv v l) (hF : Fp (fun j => j = o) w w') (hob : ¬ b = o) (ho : w.heap[o]? = some (.cells #[u, t] T (0, 0))) (hI : ∀ p ∈ l, ∀ k, p.2.ownBlock = some k → ¬ k = o) : RefBt G ro0 ro1 ro2 w' b q gv v l := by
  refine ⟨hF.heap h.head hob, ?_, fun hl => (h.vg hl).grow hF.size, fun p hp => (h.ig p hp).grow hF.size, h.nb, fun k hk => h.up k (Nat.le_trans hF.size hk), h.few, h.fews⟩
  rcases l with _ | ⟨p, r⟩
  · obtain ⟨⟨a, cap, hv, hle, _⟩, _⟩ := h.rows
    exact ⟨⟨a, cap, hv, hle, fun j u hu => by simp [flatRV] at hu⟩, fun p hp => by cases hp⟩
  · refine h.rows.fp hF (fun k hk e => ?_) hI
    obtain ⟨g, off, cap, rfl, _, _, _, _, c3⟩ := h.rows.at (k := 0) rfl
    have hg : g = k := by simpa [Value.ownBlock] using hk
    rw [hg, e] at c3
    exact cell_past ho (by omega) _ c3
def RTPostB (G : Nat → Prop) (ro0 ro1 ro2 : Value) (b : Nat) (q : Int) (gv : Bool) (rows : List FRow) (w : World) (e : Ending) (w' : World) : Prop :=
  ∃ row rest v' l', e = .returned (.tuple #[.int .i64 row.id, itV (row.its.headD ⟨0, 0⟩), .bool true]) ∧ PicksR q gv rows (row :: rest) ∧ RefBt G ro0 ro1 ro2 w' b q (tookR row rest).1 v' l' ∧ l'.map Prod.fst = (tookR row rest).2 ∧ Fp (fun j => j = b) w w'
set_option maxRecDepth 100000 in
set_option maxHeartbeats 4000000 in
theorem r15Take_consB (b : Nat) (q : Int) (gv : Bool) (v : Value) (l : List (FRow × Value)) (w : World) (h : RefBt G ro0 ro1 ro2 w b q gv v l) (hne : l ≠ []) (hq1 : 1 ≤ q) (hq : q ≤ 64) (hok : RowsOk gv (l.map Prod.fst)) (hon : ∀ r ∈ l.map Prod.fst, (r.its.map It.id).Nodup) :
    Calls Tryz.prog 106 #[.pointer (some ⟨b, 3, none⟩)] w (RTPostB G ro0 ro1 ro2 b q gv (l.map Prod.fst) w) := by
  have HR := Lib.hid h
  have HNE := Lib.hid hne
  have HQ1 := Lib.hid hq1
  have HQ := Lib.hid hq
  have HOK := Lib.hid hok
  have HON := Lib.hid hon
  have hbw := fp_lt_of_heap h.head
  clear h hne hq1 hq hok hon
  go_enter Tryz.func106, Tryz.ntmps106
  go_wp2_with fail
  refine (r15Pick_consB b q gv v l _ (HR.out.below box_below) HNE.out HQ1.out HQ.out HOK.out).mono ?_
  rintro e w2 ⟨rfl, v2, l2, hR2, hp, hF2⟩
  obtain ⟨x0, rest0, he, hle⟩ := hp.le
  obtain ⟨p, r, rfl⟩ : ∃ p r, l2 = p :: r := by
    cases l2 with
    | nil => cases he
    | cons p r => exact ⟨p, r, rfl⟩
  rw [List.map_cons, List.cons.injEq] at he
  obtain ⟨rfl, rfl⟩ := he
  have hh2 := hF2.heap fr_alloc_at (show ¬ w.heap.size = b by omega)
  have HH2 := Lib.hid hh2
  have HR2 := Lib.hid hR2
  have HP := Lib.hid hp
  have HF2 := Lib.hid ((Fp.of_below (S := fun j => j = b) box_below).trans hF2 (fun _ _ h => h))
  have HLE := Lib.hid hle
  have HOK2 := Lib.hid (picks_ok hp HQ1.out HQ.out HOK.out)
  clear hh2 hR2 hp hF2 hle
  obtain ⟨gb, off, cap', hv, hcap, c0, c1, c2, c3⟩ := HR2.out.rows.at (k := 0) (p := p) rfl
  obtain ⟨x, xs, hx, hx1, hx2⟩ := HOK2.out.full p.1 List.mem_cons_self
  have HX := Lib.hid hx
  have honx : dropIt (x :: xs) x.id = xs := by
    have h := picks_once HP.out HON.out p.1 List.mem_cons_self
    rw [hx] at h
    rw [drop_erase h (i := 0) rfl]
    rfl
  have HDR := Lib.hid honx
  clear honx
  have hpi := HR2.out.rows.its p List.mem_cons_self
  rw [hx] at hpi
  obtain ⟨pa, po, pc, hpv, i0, i1⟩ := its_at hpi (k := 0) rfl
  have HPI := Lib.hid hpi
  have HV := Lib.hid hv
  have HPV := Lib.hid hpv
  rw [hpv] at c3
  simp only [Nat.zero_mul, Nat.add_zero, List.length_cons] at c0 c1 c2 c3 i0 i1
  have b1 : w2.cell? ⟨b, 4, none⟩ = some (.slice (some ⟨gb, off, none⟩) (r.length + 1) cap') := by rw [← List.length_cons (a := p), ← hv]; exact fr_cell_of_heap HR2.out.head rfl
  clear hv hpv hx hpi
  go_upto_region 4 with fail
  obtain ⟨w3, hw3⟩ : ∃ w3 : World, w3 = w2.alloc (.cells #[.int .i64 p.1.id, .int .i64 p.1.wt, .int .i64 p.1.df, .slice (some ⟨pa, po, none⟩) (xs.length + 1) pc] 157) := ⟨_, rfl⟩
  obtain ⟨bx, hbx⟩ : ∃ bx : Nat, bx = w2.heap.size := ⟨_, rfl⟩
  rw [← hw3, ← hbx]
  have hB3 : Below w2.heap.size w2 w3 := by rw [hw3]; exact box_below
  have hX3 : w3.heap[bx]? = some (.cells #[.int .i64 p.1.id, .int .i64 p.1.wt, .int .i64 p.1.df, .slice (some ⟨pa, po, none⟩) (xs.length + 1) pc] 157 (0, 0)) := by rw [hw3, hbx]; exact fr_alloc_at
  have x3 : w3.cell? ⟨bx, 3, none⟩ = some (.slice (some ⟨pa, po, none⟩) (xs.length + 1) pc) := fr_cell_of_heap hX3 rfl
  have HX3 := Lib.hid hX3
  have HB3 := Lib.hid hB3
  have HBX := Lib.hid hbx
  have i0 := (Fp.of_below (S := fun _ => False) hB3).cell i0 (fun h => h)
  have i1 := (Fp.of_below (S := fun _ => False) hB3).cell i1 (fun h => h)
  have hz3 : w3.heap.size = bx + 1 := by rw [hw3, hbx]; simp
  have HZ3 := Lib.hid hz3
  clear hw3 hX3 hB3 hbx b1 c0 c1 c2 c3 hz3
  go_upto_region 5 with fail
  obtain ⟨w4, hw4⟩ : ∃ w4 : World, w4 = w3.alloc (.cells #[.int .i64 x.id, .int .i64 x.cost] 132) := ⟨_, rfl⟩
  obtain ⟨bi, hbi⟩ : ∃ bi : Nat, bi = w3.heap.size := ⟨_, rfl⟩
  rw [← hw4, ← hbi]
  have hB4 : Below w3.heap.size w3 w4 := by rw [hw4]; exact box_below
  have hX4 : w4.heap[bx]? = some (.cells #[.int .i64 p.1.id, .int .i64 p.1.wt, .int .i64 p.1.df, .slice (some ⟨pa, po, none⟩) (xs.length + 1) pc] 157 (0, 0)) := (hB4.block bx (fp_lt_of_heap HX3.out)).trans HX3.out
  have hI4 : w4.heap[bi]? = some (.cells #[.int .i64 x.id, .int .i64 x.cost] 132 (0, 0)) := by rw [hw4, hbi]; exact fr_alloc_at
  have x3 : w4.cell? ⟨bx, 3, none⟩ = some (.slice (some ⟨pa, po, none⟩) (xs.length + 1) pc) := fr_cell_of_heap hX4 rfl
  have y0 : w4.cell? ⟨bi, 0, none⟩ = some (.int .i64 x.id) := fr_cell_of_heap hI4 rfl
  have HX4 := Lib.hid hX4
  have HI4 := Lib.hid hI4
  have HB4 := Lib.hid hB4
  have HBI := Lib.hid hbi
  clear hw4 hX4 hB4 hbi hI4 i0 i1
  go_wp2_with fail
  have hit4 : ItsAt w4 (.slice (some ⟨pa, po, none⟩) (xs.length + 1) pc) (x :: xs) := by
    have h := HPI.out
    rw [HPV.out] at h
    exact (h.below HB3.out).below HB4.out
  refine (r14Drop_any x.id _ (x :: xs) w4 hit4 (by rw [← HX.out]; exact HR2.out.fews p List.mem_cons_self)).mono ?_
  rintro e w5 ⟨v5, rfl, ho5, hB5⟩
  rw [HDR.out] at ho5
  obtain ⟨a5, c5, rfl⟩ := its_form (ItsAt.own ho5)
  have hX5 : w5.heap[bx]? = some (.cells #[.int .i64 p.1.id, .int .i64 p.1.wt, .int .i64 p.1.df, .slice (some ⟨pa, po, none⟩) (xs.length + 1) pc] 157 (0, 0)) := (hB5.block bx (fp_lt_of_heap HX4.out)).trans HX4.out
  have hI5 : w5.heap[bi]? = some (.cells #[.int .i64 x.id, .int .i64 x.cost] 132 (0, 0)) := (hB5.block bi (fp_lt_of_heap HI4.out)).trans HI4.out
  have f3 : w5.frozen? ⟨bx, 3, none⟩ = false := fr_free_of_heap hX5
  have HX5 := Lib.hid hX5
  have HI5 := Lib.hid hI5
  have HO5 := Lib.hid ho5
  have HB5 := Lib.hid hB5
  have hnb : bx ≠ bi := by rw [HBI.out, HZ3.out]; omega
  have HNB := Lib.hid hnb
  clear hX5 hI5 ho5 hB5 x3 y0 hit4 hnb
  have x3 : w5.cell? ⟨bx, 3, none⟩ = some (.slice (some ⟨pa, po, none⟩) (xs.length + 1) pc) := fr_cell_of_heap HX5.out rfl
  go_upto_region 6 with fail
  obtain ⟨w6, hw6⟩ : ∃ w6 : World, w6 = w5.setCell ⟨bx, 3, none⟩ (.slice a5 xs.length c5) := ⟨_, rfl⟩
  rw [← hw6]
  have hF6 : Fp (fun j => j = bx) w5 w6 := by rw [hw6]; exact (Fp.refl (fun j => j = bx) w5).setCell (p := ⟨bx, 3, none⟩) (fun _ => rfl) _
  have hX6 : w6.heap[bx]? = some (.cells #[.int .i64 p.1.id, .int .i64 p.1.wt, .int .i64 p.1.df, .slice a5 xs.length c5] 157 (0, 0)) := by rw [hw6]; exact fr_setCell_at HX5.out
  have hI6 : w6.heap[bi]? = some (.cells #[.int .i64 x.id, .int .i64 x.cost] 132 (0, 0)) := hF6.heap HI5.out (fun e => HNB.out e.symm)
  have x2 : w6.cell? ⟨bx, 2, none⟩ = some (.int .i64 p.1.df) := fr_cell_of_heap hX6 rfl
  have y1 : w6.cell? ⟨bi, 1, none⟩ = some (.int .i64 x.cost) := fr_cell_of_heap hI6 rfl
  have f2 : w6.frozen? ⟨bx, 2, none⟩ = false := fr_free_of_heap hX6
  have hws : wrap64 (p.1.df - x.cost) = p.1.df - x.cost := by
    have h : NdOk 2112 (ndOf p.1) := HOK2.out.nds.1
    have h0 : 0 ≤ p.1.df := h.2.2.1
    have h1 : p.1.df ≤ 2112 := h.2.2.2
    unfold wrap64
    omega
  have HX6 := Lib.hid hX6
  have HI6 := Lib.hid hI6
  have HF6 := Lib.hid hF6
  clear hw6 hX6 hI6 hF6 f3 x3
  go_upto_region 7 with fail
  obtain ⟨w7, hw7⟩ : ∃ w7 : World, w7 = w6.setCell ⟨bx, 2, none⟩ (.int .i64 (p.1.df - x.cost)) := ⟨_, rfl⟩
  rw [← hw7]
  have hF7 : Fp (fun j => j = bx) w6 w7 := by rw [hw7]; exact (Fp.refl (fun j => j = bx) w6).setCell (p := ⟨bx, 2, none⟩) (fun _ => rfl) _
  have hX7 : w7.heap[bx]? = some (.cells #[.int .i64 p.1.id, .int .i64 p.1.wt, .int .i64 (p.1.df - x.cost), .slice a5 xs.length c5] 157 (0, 0)) := by rw [hw7]; exact fr_setCell_at HX6.out
  have hI7 : w7.heap[bi]? = some (.cells #[.int .i64 x.id, .int .i64 x.cost] 132 (0, 0)) := hF7.heap HI6.out (fun e => HNB.out e.symm)
  have x0 : w7.cell? ⟨bx, 0, none⟩ = some (.int .i64 p.1.id) := fr_cell_of_heap hX7 rfl
  have x1 : w7.cell? ⟨bx, 1, none⟩ = some (.int .i64 p.1.wt) := fr_cell_of_heap hX7 rfl
  have x2 : w7.cell? ⟨bx, 2, none⟩ = some (.int .i64 (p.1.df - x.cost)) := fr_cell_of_heap hX7 rfl
  have x3 : w7.cell? ⟨bx, 3, none⟩ = some (.slice a5 xs.length c5) := fr_cell_of_heap hX7 rfl
  have HX7 := Lib.hid hX7
  have HI7 := Lib.hid hI7
  have HF7 := Lib.hid hF7
  clear hw7 hX7 hI7 hF7 f2 y1 hws
  go_wp2_with fail
  have hF57 : Fp (fun j => j = bx) w5 w7 := HF6.out.trans HF7.out (fun _ _ h => h)
  have hR5 := ((HR2.out.below HB3.out).below HB4.out).below HB5.out
  have hbw2 := fp_lt_of_heap HR2.out.head
  have hbxb : ¬ b = bx := by rw [HBX.out]; omega
  have hbw4 : w4.heap.size ≥ w3.heap.size := HB4.out.size
  have hR7 : RefBt G ro0 ro1 ro2 w7 b q true v2 (p :: r) := hR5.fp hF57 hbxb (fun j hj e => by
    rw [HBX.out] at e
    have := rows_lt HR2.out.rows.rows (by simp) j hj
    omega) (fun p' hp' j hj e => by
    rw [HBX.out] at e
    obtain ⟨y, ys, hy, _⟩ := HOK2.out.full p'.1 (List.mem_map_of_mem hp')
    have := its_lt (HR2.out.rows.its p' hp') (by rw [hy]; simp) j hj
    omega)
  have hit7 : ItsAt w7 (.slice a5 xs.length c5) xs := (ItsAt.own HO5.out).fp hF57 (fun j hj e => by
    have h1 := own_block HO5.out j hj
    have h2 := HZ3.out
    omega)
  have hvb : InG G w7 (Value.slice a5 xs.length c5) := (own_inG HO5.out (fun k hk => ((HR2.out.below HB3.out).below HB4.out).up k hk)).grow hF57.size
  have hfew : xs.length ≤ 1000000 := by
    have h := HR2.out.fews p List.mem_cons_self
    rw [HX.out, List.length_cons] at h
    omega
  refine (r15With_anyB b q true v2 (p :: r) 0 { p.1 with df := p.1.df - x.cost, its := xs } (.slice a5 xs.length c5) w7 hR7 (by simp) hit7 hvb hfew).mono ?_
  rintro e w8 ⟨rfl, hF8, v8, hR8⟩
  have hX8 := hF8.heap HX7.out (fun e => hbxb e.symm)
  have hbi : ¬ bi = b := by
    have h2 := HZ3.out
    have h3 := HBX.out
    have h4 := HBI.out
    omega
  have hI8 := hF8.heap HI7.out hbi
  have hwb : ¬ w.heap.size = b := by omega
  have hw2 := fp_lt_of_heap HH2.out
  have hH5 := (HB5.out.block w.heap.size (by have := HZ3.out; have := HBX.out; omega)).trans ((HB4.out.block w.heap.size (by have := HZ3.out; have := HBX.out; omega)).trans ((HB3.out.block w.heap.size hw2).trans HH2.out))
  have hH8 := hF8.heap (hF57.heap hH5 (by rw [HBX.out]; omega)) hwb
  have HH8 := Lib.hid hH8
  have HX8 := Lib.hid hX8
  have HI8 := Lib.hid hI8
  have HF8 := Lib.hid hF8
  have HR8 := Lib.hid hR8
  have HF57 := Lib.hid hF57
  have z0 : w8.cell? ⟨bx, 0, none⟩ = some (.int .i64 p.1.id) := fr_cell_of_heap hX8 rfl
  have y0 : w8.cell? ⟨bi, 0, none⟩ = some (.int .i64 x.id) := fr_cell_of_heap hI8 rfl
  have y1 : w8.cell? ⟨bi, 1, none⟩ = some (.int .i64 x.cost) := fr_cell_of_heap hI8 rfl
  clear hF57 hR5 hR7 hit7 hvb hfew hF8 hR8 hX8 hI8 hH5 hH8 x0 x1 x2 x3
  have t0 : w8.cell? ⟨w.heap.size, 0, none⟩ = some (.int .i64 0) := fr_cell_of_heap HH8.out rfl
  have t1 : w8.cell? ⟨w.heap.size, 1, none⟩ = some (.int .i64 0) := fr_cell_of_heap HH8.out rfl
  have g0 : w8.frozen? ⟨w.heap.size, 0, none⟩ = false := fr_free_of_heap HH8.out
  have g1 : w8.frozen? ⟨w.heap.size, 1, none⟩ = false := fr_free_of_heap HH8.out
  go_upto_region 8 with fail
  go_region
  clear z0 y0 y1 t0 t1 g0 g1
  go_wp2_with fail
  obtain ⟨w9, hw9⟩ : ∃ w9 : World, w9 = ((w8.setCell ⟨w.heap.size, 0, none⟩ (.int .i64 x.id)).setCell ⟨w.heap.size, 1, none⟩ (.int .i64 x.cost)).drew := ⟨_, rfl⟩
  have hh9 : w9.heap[w.heap.size]? = some (.cells #[.int .i64 x.id, .int .i64 x.cost] 132 (0, 0)) := by rw [hw9]; exact fr_setCell_at (fr_setCell_at HH8.out)
  have HF9 := Lib.hid (show Fp (fun k => k = w.heap.size) w8 w9 by
    rw [hw9]
    exact (((Fp.refl (fun k => k = w.heap.size) w8).setCell (p := ⟨w.heap.size, 0, none⟩) (fun _ => rfl) _).setCell (p := ⟨w.heap.size, 1, none⟩) (fun _ => rfl) _).drew)
  rw [← hw9]
  clear hw9
  refine bodyPost_ret (v := .tuple #[.int .i64 p.1.id, .agg #[.int .i64 x.id, .int .i64 x.cost], .bool true]) (results_mid Tryz.results106 rfl rfl rfl hh9 Tryz.underlying132 rfl (item_sz x)) rfl ?_
  have hsz3 := HZ3.out
  have hbxe := HBX.out
  have hF := (((((HF2.out.then_below HB3.out).then_below HB4.out).then_below HB5.out).trans HF57.out (fun j hj e => by omega)).trans HF8.out (fun _ _ h => h)).trans HF9.out (fun j hj e => by omega)
  have hres := HR8.out.box HF9.out (fun e => by omega) HH8.out (fun p' hp' k hk e => by
    rcases with_mem hp' with hp' | rfl
    · obtain ⟨y, ys, hy, hy1, hy2⟩ := HOK2.out.full p'.1 (List.mem_map_of_mem hp')
      have hi := HR2.out.rows.its p' hp'
      rw [hy] at hi
      obtain ⟨g, o, cap, hv, j0, j1⟩ := its_at hi (k := 0) rfl
      rw [hv] at hk
      have hg : g = k := by simpa [Value.ownBlock] using hk
      rw [hg, e] at j1
      simp only [Nat.zero_mul, Nat.add_zero] at j1
      by_cases ho : o = 0
      · subst ho
        rw [fr_cell_of_heap HH2.out (show (#[Value.int .i64 0, .int .i64 0] : Array Value)[0 + 1]? = some (.int .i64 0) from rfl)] at j1
        simp at j1
        omega
      · exact cell_past HH2.out (by omega) _ j1
    · have := own_block HO5.out k hk
      omega)
  have hcfg := withV_rows 0 ({ p.1 with df := p.1.df - x.cost, its := xs }, Value.slice a5 xs.length c5) true (p :: r)
  have hhc : headC p.1.its = x.cost := by rw [HX.out]; rfl
  have htl : p.1.its.tail = xs := by rw [HX.out]; rfl
  have htk : tookR p.1 (r.map Prod.fst) = withR 0 { p.1 with df := p.1.df - x.cost, its := xs } true ((p :: r).map Prod.fst) := by
    unfold tookR
    rw [hhc, htl]
    rfl
  refine ⟨p.1, r.map Prod.fst, v8, _, by rw [HX.out]; rfl, HP.out, ?_, by rw [htk]; exact hcfg.2, hF⟩
  rw [htk, ← hcfg.1]
  exact hres
set_option maxRecDepth 100000 in
set_option maxHeartbeats 1000000 in
theorem r15Drop_noneB (id i : Int) (b : Nat) (q : Int) (gv : Bool) (v : Value) (l : List (FRow × Value)) (w : World) (h : RefBt G ro0 ro1 ro2 w b q gv v l) (hn : placeF id (l.map Prod.fst) = -1) : Calls Tryz.prog 104 #[.pointer (some ⟨b, 3, none⟩), .int .i64 id, .int .i64 i] w fun e w' => e = .returned (.bool false) ∧ Below w.heap.size w w' := by
  have HR := Lib.hid h
  have HN := Lib.hid hn
  have b0 : w.cell? ⟨b, 3, none⟩ = some (.int .i64 q) := fr_cell_of_heap h.head rfl
  have b1 : w.cell? ⟨b, 4, none⟩ = some v := fr_cell_of_heap h.head rfl
  have b2 : w.cell? ⟨b, 5, none⟩ = some (.bool gv) := fr_cell_of_heap h.head rfl
  clear h hn
  go_enter Tryz.func104, Tryz.ntmps104
  go_wp2_with fail
  refine (r15Find_any id q gv v l _ HR.out.rows HR.out.few).mono ?_
  rintro e w2 ⟨rfl, hb⟩
  rw [HN.out]
  have HB := Lib.hid hb
  clear hb b0 b1 b2
  go_wp2_with fail
  go_ret
  exact ⟨rfl, HB.out⟩
set_option maxRecDepth 100000 in
set_option maxHeartbeats 1000000 in
theorem r15Drop_notB (i : Int) (b : Nat) (q : Int) (gv : Bool) (v : Value) (l : List (FRow × Value)) (k : Nat) (p : FRow × Value) (w : World) (h : RefBt G ro0 ro1 ro2 w b q gv v l) (hp : l[k]? = some p) (hn : placeF p.1.id (l.map Prod.fst) = k) (hi : placeI i p.1.its = -1) : Calls Tryz.prog 104 #[.pointer (some ⟨b, 3, none⟩), .int .i64 p.1.id, .int .i64 i] w fun e w' => e = .returned (.bool false) ∧ Below w.heap.size w w' := by
  have HR := Lib.hid h
  have HN := Lib.hid hn
  have HI := Lib.hid hi
  have HP := Lib.hid hp
  have b0 : w.cell? ⟨b, 3, none⟩ = some (.int .i64 q) := fr_cell_of_heap h.head rfl
  have b1 : w.cell? ⟨b, 4, none⟩ = some v := fr_cell_of_heap h.head rfl
  have b2 : w.cell? ⟨b, 5, none⟩ = some (.bool gv) := fr_cell_of_heap h.head rfl
  clear h hn hi hp
  go_enter Tryz.func104, Tryz.ntmps104
  go_wp2_with fail
  refine (r15Find_any p.1.id q gv v l _ HR.out.rows HR.out.few).mono ?_
  rintro e w2 ⟨rfl, hb⟩
  rw [HN.out]
  have HB := Lib.hid hb
  have HR2 := Lib.hid (HR.out.below hb)
  obtain ⟨gb, off, cap', rfl, hcap, c0, c1, c2, c3⟩ := HR2.out.rows.at HP.out
  have b1 : w2.cell? ⟨b, 4, none⟩ = some (.slice (some ⟨gb, off, none⟩) l.length cap') := fr_cell_of_heap HR2.out.head rfl
  have hk : k < l.length := (List.getElem?_eq_some_iff.1 HP.out).1
  have hk0 : ¬ ((k : Int) < 0) := by omega
  have hit := HR2.out.rows.its p (List.mem_of_getElem? HP.out)
  obtain ⟨pa, pc, hpv⟩ := its_form hit
  rw [hpv] at c3
  have HIT := Lib.hid hit
  have HPV := Lib.hid hpv
  clear hb b0 b2 c0 c1 c2 hit hpv
  go_wp2_with fail
  have hpi : ItsAt w2 (.slice pa p.1.its.length pc) p.1.its := by
    have h := HIT.out
    rw [HPV.out] at h
    exact h
  refine (r14Find_any i _ p.1.its w2 hpi (HR.out.fews p (List.mem_of_getElem? HP.out))).mono ?_
  rintro e w3 ⟨rfl, h3⟩
  subst h3
  rw [HI.out]
  clear hpi b1 c3
  go_wp2_with fail
  go_ret
  exact ⟨rfl, HB.out⟩
set_option maxRecDepth 100000 in
set_option maxHeartbeats 4000000 in
theorem r15Drop_someB (x : It) (j : Nat) (b : Nat) (q : Int) (gv : Bool) (v : Value) (l : List (FRow × Value)) (k : Nat) (p : FRow × Value) (w : World) (h : RefBt G ro0 ro1 ro2 w b q gv v l) (hp : l[k]? = some p) (hn : placeF p.1.id (l.map Prod.fst) = k) (hi : placeI x.id p.1.its = j) (hfull : ∀ r ∈ l.map Prod.fst, r.its ≠ []) : Calls Tryz.prog 104 #[.pointer (some ⟨b, 3, none⟩), .int .i64 p.1.id, .int .i64 x.id] w fun e w' => e = .returned (.bool true) ∧ Fp (fun j => j = b) w w' ∧ ∃ v' l', RefBt G ro0 ro1 ro2 w' b q (withR k { p.1 with its := dropIt p.1.its x.id } gv (l.map Prod.fst)).1 v' l' ∧ l'.map Prod.fst = (withR k { p.1 with its := dropIt p.1.its x.id } gv (l.map Prod.fst)).2 := by
  have HR := Lib.hid h
  have HN := Lib.hid hn
  have HI := Lib.hid hi
  have HP := Lib.hid hp
  have HFULL := Lib.hid hfull
  have b0 : w.cell? ⟨b, 3, none⟩ = some (.int .i64 q) := fr_cell_of_heap h.head rfl
  have b1 : w.cell? ⟨b, 4, none⟩ = some v := fr_cell_of_heap h.head rfl
  have b2 : w.cell? ⟨b, 5, none⟩ = some (.bool gv) := fr_cell_of_heap h.head rfl
  clear h hn hi hp hfull
  go_enter Tryz.func104, Tryz.ntmps104
  go_wp2_with fail
  refine (r15Find_any p.1.id q gv v l _ HR.out.rows HR.out.few).mono ?_
  rintro e w2 ⟨rfl, hb⟩
  rw [HN.out]
  have HB := Lib.hid hb
  have HR2 := Lib.hid (HR.out.below hb)
  obtain ⟨gb, off, cap', rfl, hcap, c0, c1, c2, c3⟩ := HR2.out.rows.at HP.out
  have b1 : w2.cell? ⟨b, 4, none⟩ = some (.slice (some ⟨gb, off, none⟩) l.length cap') := fr_cell_of_heap HR2.out.head rfl
  have hk : k < l.length := (List.getElem?_eq_some_iff.1 HP.out).1
  have hk0 : ¬ ((k : Int) < 0) := by omega
  have hit := HR2.out.rows.its p (List.mem_of_getElem? HP.out)
  obtain ⟨pa, pc, hpv⟩ := its_form hit
  rw [hpv] at c3
  have HIT := Lib.hid hit
  have HPV := Lib.hid hpv
  clear hb b0 b2 c0 c1 c2 hit hpv
  go_wp2_with fail
  have hpi : ItsAt w2 (.slice pa p.1.its.length pc) p.1.its := by
    have h := HIT.out
    rw [HPV.out] at h
    exact h
  refine (r14Find_any x.id _ p.1.its w2 hpi (HR.out.fews p (List.mem_of_getElem? HP.out))).mono ?_
  rintro e w3 ⟨rfl, h3⟩
  subst h3
  rw [HI.out]
  clear hpi b1 c3
  have hj0 : ¬ ((j : Int) < 0) := by omega
  have HR3 := Lib.hid (HR2.out)
  obtain ⟨gb3, off3, cap3, hv3, hcap3, c0, c1, c2, c3⟩ := HR3.out.rows.at HP.out
  rw [HPV.out] at c3
  have b1 : w2.cell? ⟨b, 4, none⟩ = some (.slice (some ⟨gb3, off3, none⟩) l.length cap3) := by rw [← hv3]; exact fr_cell_of_heap HR3.out.head rfl
  clear hv3
  go_upto_region 5 with fail
  obtain ⟨w3, hw3⟩ : ∃ w3 : World, w3 = w2.alloc (.cells #[.int .i64 p.1.id, .int .i64 p.1.wt, .int .i64 p.1.df, .slice pa p.1.its.length pc] 157) := ⟨_, rfl⟩
  obtain ⟨bx, hbx⟩ : ∃ bx : Nat, bx = w2.heap.size := ⟨_, rfl⟩
  rw [← hw3, ← hbx]
  have hB3 : Below w2.heap.size w2 w3 := by rw [hw3]; exact box_below
  have hX3 : w3.heap[bx]? = some (.cells #[.int .i64 p.1.id, .int .i64 p.1.wt, .int .i64 p.1.df, .slice pa p.1.its.length pc] 157 (0, 0)) := by rw [hw3, hbx]; exact fr_alloc_at
  have x3 : w3.cell? ⟨bx, 3, none⟩ = some (.slice pa p.1.its.length pc) := fr_cell_of_heap hX3 rfl
  have HX3 := Lib.hid hX3
  have HB3 := Lib.hid hB3
  have HBX := Lib.hid hbx
  have hz3 : w3.heap.size = bx + 1 := by rw [hw3, hbx]; simp
  have HZ3 := Lib.hid hz3
  clear hw3 hX3 hB3 hbx b1 c0 c1 c2 c3 hz3
  go_wp2_with fail
  have hit3 : ItsAt w3 (.slice pa p.1.its.length pc) p.1.its := by
    have h := HIT.out
    rw [HPV.out] at h
    exact h.below HB3.out
  refine (r14Drop_any x.id _ p.1.its w3 hit3 (HR.out.fews p (List.mem_of_getElem? HP.out))).mono ?_
  rintro e w5 ⟨v5, rfl, ho5, hB5⟩
  obtain ⟨a5, c5, rfl⟩ := its_form (ItsAt.own ho5)
  have hX5 : w5.heap[bx]? = some (.cells #[.int .i64 p.1.id, .int .i64 p.1.wt, .int .i64 p.1.df, .slice pa p.1.its.length pc] 157 (0, 0)) := (hB5.block bx (fp_lt_of_heap HX3.out)).trans HX3.out
  have f3 : w5.frozen? ⟨bx, 3, none⟩ = false := fr_free_of_heap hX5
  have HX5 := Lib.hid hX5
  have HO5 := Lib.hid ho5
  have HB5 := Lib.hid hB5
  clear hX5 ho5 hB5 x3 hit3
  have x3 : w5.cell? ⟨bx, 3, none⟩ = some (.slice pa p.1.its.length pc) := fr_cell_of_heap HX5.out rfl
  go_upto_region 6 with fail
  obtain ⟨w7, hw7⟩ : ∃ w7 : World, w7 = w5.setCell ⟨bx, 3, none⟩ (.slice a5 (dropIt p.1.its x.id).length c5) := ⟨_, rfl⟩
  rw [← hw7]
  have hF57 : Fp (fun j => j = bx) w5 w7 := by rw [hw7]; exact (Fp.refl (fun j => j = bx) w5).setCell (p := ⟨bx, 3, none⟩) (fun _ => rfl) _
  have hX7 : w7.heap[bx]? = some (.cells #[.int .i64 p.1.id, .int .i64 p.1.wt, .int .i64 p.1.df, .slice a5 (dropIt p.1.its x.id).length c5] 157 (0, 0)) := by rw [hw7]; exact fr_setCell_at HX5.out
  have x0 : w7.cell? ⟨bx, 0, none⟩ = some (.int .i64 p.1.id) := fr_cell_of_heap hX7 rfl
  have x1 : w7.cell? ⟨bx, 1, none⟩ = some (.int .i64 p.1.wt) := fr_cell_of_heap hX7 rfl
  have x2 : w7.cell? ⟨bx, 2, none⟩ = some (.int .i64 p.1.df) := fr_cell_of_heap hX7 rfl
  have x3 : w7.cell? ⟨bx, 3, none⟩ = some (.slice a5 (dropIt p.1.its x.id).length c5) := fr_cell_of_heap hX7 rfl
  have HF57 := Lib.hid hF57
  clear hw7 hX7 hF57 f3
  go_wp2_with fail
  have hsz3 := HZ3.out
  have hbxe := HBX.out
  have hbw2 := fp_lt_of_heap HR2.out.head
  have hbxb : ¬ b = bx := by omega
  have hlen : l ≠ [] := fun e => by rw [e] at hk; simp at hk
  have hR7 : RefBt G ro0 ro1 ro2 w7 b q gv _ l := ((HR2.out.below HB3.out).below HB5.out).fp HF57.out hbxb (fun j hj e => by
    have := rows_lt HR2.out.rows.rows hlen j hj
    omega) (fun p' hp' j hj e => by
    have := its_lt (HR2.out.rows.its p' hp') (HFULL.out p'.1 (List.mem_map_of_mem hp')) j hj
    omega)
  have hit7 : ItsAt w7 (.slice a5 (dropIt p.1.its x.id).length c5) (dropIt p.1.its x.id) := (ItsAt.own HO5.out).fp HF57.out (fun j hj e => by
    have h1 := own_block HO5.out j hj
    omega)
  have hvb : InG G w7 (Value.slice a5 (dropIt p.1.its x.id).length c5) := (own_inG HO5.out (fun k hk => (HR2.out.below HB3.out).up k hk)).grow HF57.out.size
  have hfew : (dropIt p.1.its x.id).length ≤ 1000000 := Nat.le_trans (List.length_filter_le _ _) (HR.out.fews p (List.mem_of_getElem? HP.out))
  refine (r15With_anyB b q gv _ l k { p.1 with its := dropIt p.1.its x.id } (.slice a5 (dropIt p.1.its x.id).length c5) w7 hR7 hk hit7 hvb hfew).mono ?_
  rintro e w8 ⟨rfl, hF8, v8, hR8⟩
  have HF8 := Lib.hid hF8
  have HR8 := Lib.hid hR8
  clear hF8 hR8 x0 x1 x2 x3 hR7 hit7 hvb hfew
  go_wp2_with fail
  go_ret
  have hsz := HB.out.size
  have hcfg := withV_rows k ({ p.1 with its := dropIt p.1.its x.id }, Value.slice a5 (dropIt p.1.its x.id).length c5) gv l
  refine ⟨rfl, ((((Fp.of_below (S := fun j => j = b) HB.out).then_below HB3.out).then_below HB5.out).trans HF57.out (fun j hj e => by omega)).trans HF8.out (fun _ _ h => h), v8, _, ?_, hcfg.2⟩
  rw [← hcfg.1]
  exact HR8.out
end Go.Proofs.YtdbjihkgafhakaaGreatDoor
/-
  ref15 (flows), inside a tenant's row: printed by refb_gen.py out of the walks of a ring of its own.
-/
namespace Go.Proofs.YtdbjihkgafhakaaGreatDoor
open Go.RowKit
variable {G : Nat → Prop} {ro0 ro1 ro2 : Value}
set_option maxRecDepth 100000 in
set_option maxHeartbeats 1000000 in
theorem r15Push_badB (id wt : Int) (x : It) (b : Nat) (q : Int) (gv : Bool) (v : Value) (l : List (FRow × Value)) (w : World) (h : RefBt G ro0 ro1 ro2 w b q gv v l) (hbad : argBad id wt) : Calls Tryz.prog 102 #[.pointer (some ⟨b, 3, none⟩), .int .i64 id, .int .i64 wt, .agg #[.int .i64 x.id, .int .i64 x.cost]] w fun e w' => e = .returned (.int .i64 1) ∧ Below w.heap.size w w' := by
  obtain ⟨a, cap, rfl, -⟩ := h.rows.form
  have HR := Lib.hid h
  have b0 : w.cell? ⟨b, 3, none⟩ = some (.int .i64 q) := fr_cell_of_heap h.head rfl
  have b1 : w.cell? ⟨b, 4, none⟩ = some (.slice a l.length cap) := fr_cell_of_heap h.head rfl
  have b2 : w.cell? ⟨b, 5, none⟩ = some (.bool gv) := fr_cell_of_heap h.head rfl
  have hbw := fp_lt_of_heap h.head
  clear h
  go_enter Tryz.func102, Tryz.ntmps102
  go_wp2_with fail
  refine (r15Find_any id q gv _ l _ (HR.out.below box_below).rows HR.out.few).mono ?_
  rintro e w2 ⟨rfl, hb⟩
  have HB := Lib.hid hb
  clear hb b0 b1 b2
  by_cases h0 : id < 0
  · go_wp2_with fail
    go_ret
    exact ⟨rfl, box_below2 HB.out⟩
  · by_cases h1 : wt < 1
    · go_wp2_with fail
      go_ret
      exact ⟨rfl, box_below2 HB.out⟩
    · have h2 : wt > 16 := by unfold argBad at hbad; omega
      go_wp2_with fail
      go_ret
      exact ⟨rfl, box_below2 HB.out⟩
set_option maxRecDepth 100000 in
set_option maxHeartbeats 1000000 in
theorem r15Push_wtB (wt : Int) (x : It) (b : Nat) (q : Int) (gv : Bool) (v : Value) (l : List (FRow × Value)) (k : Nat) (p : FRow × Value) (w : World) (h : RefBt G ro0 ro1 ro2 w b q gv v l) (hp : l[k]? = some p) (hn : placeF p.1.id (l.map Prod.fst) = k) (hgood : ¬ argBad p.1.id wt) (hwt : p.1.wt ≠ wt) : Calls Tryz.prog 102 #[.pointer (some ⟨b, 3, none⟩), .int .i64 p.1.id, .int .i64 wt, .agg #[.int .i64 x.id, .int .i64 x.cost]] w fun e w' => e = .returned (.int .i64 1) ∧ Below w.heap.size w w' := by
  obtain ⟨a, cap, rfl, -⟩ := h.rows.form
  have HR := Lib.hid h
  have HN := Lib.hid hn
  have HP := Lib.hid hp
  have b0 : w.cell? ⟨b, 3, none⟩ = some (.int .i64 q) := fr_cell_of_heap h.head rfl
  have b1 : w.cell? ⟨b, 4, none⟩ = some (.slice a l.length cap) := fr_cell_of_heap h.head rfl
  have b2 : w.cell? ⟨b, 5, none⟩ = some (.bool gv) := fr_cell_of_heap h.head rfl
  have hbw := fp_lt_of_heap h.head
  have h0 : ¬ p.1.id < 0 := fun e => hgood (.inl e)
  have h1 : ¬ wt < 1 := fun e => hgood (.inr (.inl e))
  have h2 : ¬ wt > 16 := fun e => hgood (.inr (.inr e))
  clear h hn hp hgood
  go_enter Tryz.func102, Tryz.ntmps102
  go_wp2_with fail
  refine (r15Find_any p.1.id q gv _ l _ (HR.out.below box_below).rows HR.out.few).mono ?_
  rintro e w2 ⟨rfl, hb⟩
  rw [HN.out]
  have HB := Lib.hid hb
  have HR2 := Lib.hid ((HR.out.below box_below).below hb)
  obtain ⟨gb, off, cap', hv, hcap, c0, c1, c2, c3⟩ := HR2.out.rows.at HP.out
  have b1 : w2.cell? ⟨b, 4, none⟩ = some (.slice (some ⟨gb, off, none⟩) l.length cap') := by rw [← hv]; exact fr_cell_of_heap HR2.out.head rfl
  have hk : k < l.length := (List.getElem?_eq_some_iff.1 HP.out).1
  have hk0 : (k : Int) ≥ 0 := by omega
  have hne : (p.1.wt != wt) = true := by simp [hwt]
  clear hb b0 b2 c0 c2 c3 hv
  go_wp2_with fail
  go_ret
  exact ⟨rfl, box_below2 HB.out⟩
set_option maxRecDepth 100000 in
set_option maxHeartbeats 4000000 in
theorem r15Push_thereB (x : It) (b : Nat) (q : Int) (gv : Bool) (v : Value) (l : List (FRow × Value)) (k : Nat) (p : FRow × Value) (w : World) (h : RefBt G ro0 ro1 ro2 w b q gv v l) (hp : l[k]? = some p) (hn : placeF p.1.id (l.map Prod.fst) = k) (hgood : ¬ argBad p.1.id p.1.wt) (hfull : ∀ r ∈ l.map Prod.fst, r.its ≠ []) (hlen : p.1.its.length < 1000000) : Calls Tryz.prog 102 #[.pointer (some ⟨b, 3, none⟩), .int .i64 p.1.id, .int .i64 p.1.wt, .agg #[.int .i64 x.id, .int .i64 x.cost]] w fun e w' => e = .returned (.int .i64 (itE p.1.its x)) ∧ Fp (fun j => j = b) w w' ∧ ∃ v' l', RefBt G ro0 ro1 ro2 w' b q gv v' l' ∧ l'.map Prod.fst = (l.map Prod.fst).set k { p.1 with its := if itE p.1.its x = 0 then p.1.its ++ [x] else p.1.its } := by
  obtain ⟨a, cap, rfl, -⟩ := h.rows.form
  have HR := Lib.hid h
  have HN := Lib.hid hn
  have HP := Lib.hid hp
  have b0 : w.cell? ⟨b, 3, none⟩ = some (.int .i64 q) := fr_cell_of_heap h.head rfl
  have b1 : w.cell? ⟨b, 4, none⟩ = some (.slice a l.length cap) := fr_cell_of_heap h.head rfl
  have b2 : w.cell? ⟨b, 5, none⟩ = some (.bool gv) := fr_cell_of_heap h.head rfl
  have hbw := fp_lt_of_heap h.head
  have h0 : ¬ p.1.id < 0 := fun e => hgood (.inl e)
  have h1 : ¬ p.1.wt < 1 := fun e => hgood (.inr (.inl e))
  have h2 : ¬ p.1.wt > 16 := fun e => hgood (.inr (.inr e))
  have HFULL := Lib.hid hfull
  have HLEN := Lib.hid hlen
  obtain ⟨its', hits⟩ : ∃ its' : List It, its' = (if itE p.1.its x = 0 then p.1.its ++ [x] else p.1.its) := ⟨_, rfl⟩
  rw [← hits]
  have HITS := Lib.hid hits
  clear h hn hp hgood hfull hlen hits
  go_enter Tryz.func102, Tryz.ntmps102
  go_wp2_with fail
  refine (r15Find_any p.1.id q gv _ l _ (HR.out.below box_below).rows HR.out.few).mono ?_
  rintro e w2 ⟨rfl, hb⟩
  rw [HN.out]
  have HB := Lib.hid hb
  have hb' := hb
  have HR2 := Lib.hid ((HR.out.below box_below).below hb)
  obtain ⟨gb, off, cap', hv, hcap, c0, c1, c2, c3⟩ := HR2.out.rows.at HP.out
  have b1 : w2.cell? ⟨b, 4, none⟩ = some (.slice (some ⟨gb, off, none⟩) l.length cap') := by rw [← hv]; exact fr_cell_of_heap HR2.out.head rfl
  have hk : k < l.length := (List.getElem?_eq_some_iff.1 HP.out).1
  have hk0 : (k : Int) ≥ 0 := by omega
  have hne : (p.1.wt != p.1.wt) = false := by simp
  clear hb b0 b2 hv
  have hxb := (hb'.block w.heap.size (by simp)).trans fr_alloc_at
  have HXB := Lib.hid hxb
  have z0 : w2.cell? ⟨w.heap.size, 0, none⟩ = some (.int .i64 x.id) := fr_cell_of_heap hxb rfl
  have z1 : w2.cell? ⟨w.heap.size, 1, none⟩ = some (.int .i64 x.cost) := fr_cell_of_heap hxb rfl
  have hw2 := fp_lt_of_heap hxb
  clear hb' hxb
  obtain ⟨pa, pc, hpv⟩ := its_form (HR2.out.rows.its p (List.mem_of_getElem? HP.out))
  have HPV := Lib.hid hpv
  rw [hpv] at c3
  clear hpv
  go_wp2_with fail
  obtain ⟨w3, hw3⟩ : ∃ w3 : World, w3 = w2.alloc (.cells #[.int .i64 p.1.id, .int .i64 p.1.wt, .int .i64 p.1.df, .slice pa p.1.its.length pc] 157) := ⟨_, rfl⟩
  obtain ⟨bx, hbx⟩ : ∃ bx : Nat, bx = w2.heap.size := ⟨_, rfl⟩
  rw [← hw3, ← hbx]
  have hB3 : Below w2.heap.size w2 w3 := by rw [hw3]; exact box_below
  have hX3 : w3.heap[bx]? = some (.cells #[.int .i64 p.1.id, .int .i64 p.1.wt, .int .i64 p.1.df, .slice pa p.1.its.length pc] 157 (0, 0)) := by rw [hw3, hbx]; exact fr_alloc_at
  have hit2 := HR2.out.rows.its p (List.mem_of_getElem? HP.out)
  rw [HPV.out] at hit2
  have hit3 : ItsAt w3 (.slice pa p.1.its.length pc) p.1.its := hit2.below hB3
  have HX3 := Lib.hid hX3
  have HB3 := Lib.hid hB3
  have HBX := Lib.hid hbx
  have hz3 : w3.heap.size = bx + 1 := by rw [hw3, hbx]; simp
  have HZ3 := Lib.hid hz3
  clear hw3 hX3 hB3 hbx b1 c0 c1 c2 c3 hz3 hit2
  refine (r14Push_any _ p.1.its x w3 hit3 HLEN.out).mono ?_
  rintro e w5 ⟨v5, rfl, hi5, hv5, hB5⟩
  rw [← HITS.out] at hi5
  obtain ⟨a5, c5, rfl⟩ := its_form hi5
  have hX5 : w5.heap[bx]? = some (.cells #[.int .i64 p.1.id, .int .i64 p.1.wt, .int .i64 p.1.df, .slice pa p.1.its.length pc] 157 (0, 0)) := (hB5.block bx (fp_lt_of_heap HX3.out)).trans HX3.out
  have f3 : w5.frozen? ⟨bx, 3, none⟩ = false := fr_free_of_heap hX5
  have x3 : w5.cell? ⟨bx, 3, none⟩ = some (.slice pa p.1.its.length pc) := fr_cell_of_heap hX5 rfl
  have HX5 := Lib.hid hX5
  have HI5 := Lib.hid hi5
  have HV5 := Lib.hid hv5
  have HB5 := Lib.hid hB5
  clear hX5 hi5 hv5 hB5 hit3
  go_upto_region 12 with fail
  obtain ⟨w7, hw7⟩ : ∃ w7 : World, w7 = w5.setCell ⟨bx, 3, none⟩ (.slice a5 its'.length c5) := ⟨_, rfl⟩
  rw [← hw7]
  have hF57 : Fp (fun j => j = bx) w5 w7 := by rw [hw7]; exact (Fp.refl (fun j => j = bx) w5).setCell (p := ⟨bx, 3, none⟩) (fun _ => rfl) _
  have hX7 : w7.heap[bx]? = some (.cells #[.int .i64 p.1.id, .int .i64 p.1.wt, .int .i64 p.1.df, .slice a5 its'.length c5] 157 (0, 0)) := by rw [hw7]; exact fr_setCell_at HX5.out
  have x0 : w7.cell? ⟨bx, 0, none⟩ = some (.int .i64 p.1.id) := fr_cell_of_heap hX7 rfl
  have x1 : w7.cell? ⟨bx, 1, none⟩ = some (.int .i64 p.1.wt) := fr_cell_of_heap hX7 rfl
  have x2 : w7.cell? ⟨bx, 2, none⟩ = some (.int .i64 p.1.df) := fr_cell_of_heap hX7 rfl
  have x3 : w7.cell? ⟨bx, 3, none⟩ = some (.slice a5 its'.length c5) := fr_cell_of_heap hX7 rfl
  have HF57 := Lib.hid hF57
  clear hw7 hX7 hF57 f3
  go_wp2_with fail
  have hsz3 := HZ3.out
  have hbxe := HBX.out
  have hbw2 := fp_lt_of_heap HR2.out.head
  have hbxb : ¬ b = bx := by omega
  have hlen : l ≠ [] := fun e => by rw [e] at hk; simp at hk
  have hpm := List.mem_of_getElem? HP.out
  have hpne := HFULL.out p.1 (List.mem_map_of_mem hpm)
  have hR7 : RefBt G ro0 ro1 ro2 w7 b q gv _ l := ((HR2.out.below HB3.out).below HB5.out).fp HF57.out hbxb (fun j hj e => by
    have := rows_lt HR2.out.rows.rows hlen j hj
    omega) (fun p' hp' j hj e => by
    have := its_lt (HR2.out.rows.its p' hp') (HFULL.out p'.1 (List.mem_map_of_mem hp')) j hj
    omega)
  have hpl : ∀ j, (Value.slice pa p.1.its.length pc).ownBlock = some j → j < bx := fun j hj => by
    rw [← HPV.out] at hj
    have := its_lt (HR2.out.rows.its p hpm) hpne j hj
    omega
  have hit7 : ItsAt w7 (.slice a5 its'.length c5) its' := HI5.out.fp HF57.out (fun j hj e => by
    rcases HV5.out with h | h
    · rw [h] at hj
      have := hpl j hj
      omega
    · have := (h j hj).1
      omega)
  have hvb : InG G w7 (Value.slice a5 its'.length c5) := by
    intro j hj
    have h75 := HF57.out.size
    rcases HV5.out with h | h
    · rw [h, ← HPV.out] at hj
      have h1 := HR2.out.ig p hpm j hj
      have h2 := HB3.out.size
      have h3 := HB5.out.size
      exact ⟨h1.1, by omega⟩
    · have h1 := h j hj
      exact ⟨(HR2.out.below HB3.out).up j h1.1, by omega⟩
  have hne' : its' ≠ [] := by
    rw [HITS.out]
    split
    · simp
    · exact hpne
  have hfew : its'.length ≤ 1000000 := by
    rw [HITS.out]
    split
    · have := HLEN.out
      simp
      omega
    · have := HLEN.out
      omega
  refine (r15With_anyB b q gv _ l k { p.1 with its := its' } (.slice a5 its'.length c5) w7 hR7 hk hit7 hvb hfew).mono ?_
  rintro e w8 ⟨rfl, hF8, v8, hR8⟩
  have hwv : withV k ({ p.1 with its := its' }, Value.slice a5 its'.length c5) gv l = (gv, l.set k ({ p.1 with its := its' }, Value.slice a5 its'.length c5)) := if_neg hne'
  rw [hwv] at hR8
  have HF8 := Lib.hid hF8
  have HR8 := Lib.hid hR8
  clear hF8 hR8 x0 x1 x2 x3 hR7 hit7 hvb hfew hwv hpl hpne hpm
  go_wp2_with fail
  go_ret
  have hsz := HB.out.size
  refine ⟨rfl, ((((Fp.of_below (S := fun j => j = b) (box_below2 HB.out)).then_below HB3.out).then_below HB5.out).trans HF57.out (fun j hj e => by simp at hsz; omega)).trans HF8.out (fun _ _ h => h), v8, _, HR8.out, ?_⟩
  rw [set_map]
theorem new_closeB {w4 wa : World} {b : Nat} {q : Int} {gv : Bool} {v2 v3 : Value} {p : FRow × Value} {l : List (FRow × Value)} (hR : RefBt G ro0 ro1 ro2 w4 b q gv v2 l) (hi : ItsAt w4 p.2 p.1.its) (hg : InG G w4 p.2) (hlen : l.length < 1000000) (hpl : p.1.its.length ≤ 1000000) (hL : Laid2 157 4 w4 v3 (l.length + 1) (flatRV l ++ encRV p) wa) :
    RefBt G ro0 ro1 ro2 (wa.setCell ⟨b, 4, none⟩ v3) b q gv v3 (l ++ [p]) ∧ Fp (fun j => j = b) w4 (wa.setCell ⟨b, 4, none⟩ v3) := by
  have hbw := fp_lt_of_heap hR.head
  have hF : Fp (fun j => j = b) wa (wa.setCell ⟨b, 4, none⟩ v3) := (Fp.refl (fun j => j = b) wa).setCell (p := ⟨b, 4, none⟩) (fun _ => rfl) _
  have hsz := Nat.le_trans hL.below.size hF.size
  have hvg : InG G (wa.setCell ⟨b, 4, none⟩ v3) v3 := (own_inG hL.own (fun k hk => hR.up k hk)).grow hF.size
  have hv3 : v3.ownBlock ≠ some b := hvg.not hR.nb
  have hm : ∀ {P : FRow × Value → Prop}, (∀ y ∈ l, P y) → P p → ∀ y ∈ l ++ [p], P y := fun h1 h2 y hy => by
    rcases List.mem_append.1 hy with hy | hy
    · exact h1 y hy
    · rw [List.mem_singleton] at hy
      subst hy
      exact h2
  have hig : ∀ y ∈ l ++ [p], InG G w4 y.2 := hm hR.ig hg
  refine ⟨⟨fr_setCell_at ((hL.below.block b hbw).trans hR.head), ?_, fun _ => hvg, fun y hy => (hig y hy).grow hsz, hR.nb, fun k hk => hR.up k (Nat.le_trans hsz hk), by rw [List.length_append, List.length_singleton]; omega, hm hR.fews hpl⟩, (Fp.of_below hL.below).trans hF (fun _ _ h => h)⟩
  refine (rows_own (l := l ++ [p]) (by rw [List.length_append, flatRV_snoc]; exact hL.own) (fun y hy => ItsAt.below (hm hR.rows.its hi y hy) hL.below)).fp hF (fun j hj e => hv3 (e ▸ hj)) (fun y hy j hj e => (hig y hy).not hR.nb (e ▸ hj))
set_option maxRecDepth 100000 in
set_option maxHeartbeats 4000000 in
theorem r15Push_newB (id wt : Int) (x : It) (b : Nat) (q : Int) (gv : Bool) (v : Value) (l : List (FRow × Value)) (w : World) (h : RefBt G ro0 ro1 ro2 w b q gv v l) (hn : placeF id (l.map Prod.fst) = -1) (hgood : ¬ argBad id wt) (hlen : l.length < 1000000) : Calls Tryz.prog 102 #[.pointer (some ⟨b, 3, none⟩), .int .i64 id, .int .i64 wt, .agg #[.int .i64 x.id, .int .i64 x.cost]] w fun e w' => e = .returned (.int .i64 (itE [] x)) ∧ Fp (fun j => j = b) w w' ∧ ∃ v' l', RefBt G ro0 ro1 ro2 w' b q gv v' l' ∧ l'.map Prod.fst = if itE [] x = 0 then l.map Prod.fst ++ [⟨id, wt, 0, [x]⟩] else l.map Prod.fst := by
  have HR := Lib.hid h
  have HN := Lib.hid hn
  have b0 : w.cell? ⟨b, 3, none⟩ = some (.int .i64 q) := fr_cell_of_heap h.head rfl
  have b1 : w.cell? ⟨b, 4, none⟩ = some v := fr_cell_of_heap h.head rfl
  have b2 : w.cell? ⟨b, 5, none⟩ = some (.bool gv) := fr_cell_of_heap h.head rfl
  have hbw := fp_lt_of_heap h.head
  have h0 : ¬ id < 0 := fun e => hgood (.inl e)
  have h1 : ¬ wt < 1 := fun e => hgood (.inr (.inl e))
  have h2 : ¬ wt > 16 := fun e => hgood (.inr (.inr e))
  have HLEN := Lib.hid hlen
  obtain ⟨rows', hrows⟩ : ∃ rows' : List FRow, rows' = (if itE [] x = 0 then l.map Prod.fst ++ [⟨id, wt, 0, [x]⟩] else l.map Prod.fst) := ⟨_, rfl⟩
  rw [← hrows]
  have HROWS := Lib.hid hrows
  clear h hn hgood hlen hrows
  go_enter Tryz.func102, Tryz.ntmps102
  go_wp2_with fail
  refine (r15Find_any id q gv _ l _ (HR.out.below box_below).rows HR.out.few).mono ?_
  rintro e w2 ⟨rfl, hb⟩
  rw [HN.out]
  have HB := Lib.hid hb
  have HR2 := Lib.hid ((HR.out.below box_below).below hb)
  have hxb := (hb.block w.heap.size (by simp)).trans fr_alloc_at
  have z0 : w2.cell? ⟨w.heap.size, 0, none⟩ = some (.int .i64 x.id) := fr_cell_of_heap hxb rfl
  have z1 : w2.cell? ⟨w.heap.size, 1, none⟩ = some (.int .i64 x.cost) := fr_cell_of_heap hxb rfl
  clear hb b0 b1 b2 hxb
  go_wp2_with fail
  refine (r14Push_any _ [] x w2 (its_nil w2) (by decide)).mono ?_
  rintro e w5 ⟨v5, rfl, hi5, hv5, hB5⟩
  have HB5 := Lib.hid hB5
  have HR5 := Lib.hid (HR2.out.below hB5)
  by_cases he : itE [] x = 0
  · rw [if_pos he] at hi5
    have HROWS := Lib.hid (HROWS.out.trans (if_pos he))
    have HE := Lib.hid he
    rw [he]
    have HG5 := Lib.hid (show InG G w5 v5 from fun j hj => by
      rcases hv5 with h | h
      · rw [h] at hj
        cases hj
      · exact ⟨HR2.out.up j (h j hj).1, (h j hj).2⟩)
    have HI5 := Lib.hid (show ItsAt w5 v5 [x] from hi5)
    clear hi5 hv5 hB5 z0 z1 he
    obtain ⟨a5, c5, rfl⟩ : ∃ a5 c5, v5 = .slice a5 1 c5 := its_form HI5.out
    obtain ⟨i0, hi0, hz0, hz1, hz2⟩ := info_parts rrow_info
    have HS1 := Lib.hid (rows_src ((HR5.out.below (box_below (o := .cells #[] 157))).rows))
    have HON := Lib.hid (flatRV_one (w := w5) HR5.out.rows.its)
    have hlen := HLEN.out
    have hl1 : l.length ≤ maxLen := by unfold maxLen; omega
    have hl2 : l.length * 48 ≤ 140737488355328 := by omega
    have hl3 : l.length < 140737488355328 := by omega
    have hl4 : (l.length + 1) * 48 ≤ 140737488355328 := by omega
    have hbw5 := fp_lt_of_heap HR5.out.head
    have b1 : w5.cell? ⟨b, 4, none⟩ = some v := fr_cell_of_heap HR5.out.head rfl
    clear hlen
    go_upto_region 7 with fail
    go_wp2_with (first
      | (at_builtin; refine wpList_copy_from rfl _ _ 102 rfl 157 i0 _ 4 48 Tryz.underlying102 hi0 hz0 hz1 hz2 rfl (by decide) w5.heap.size (by simp [Act.eval]) (heap_alloc_new w5 _) v l.length (flatRV l) rfl HS1.out HON.out hl1 hl2 ?_; intro v6 w6 ho6 hg6 hat6; (have hb6 : Below w5.heap.size w5 w6 := ⟨hg6.os, hg6.tape, hg6.output, Nat.le_trans (by simp) hg6.size, fun j hj => (hg6.block j (by simp; omega) (fun e => by simp at e; omega)).trans (Below.heap_alloc _ _ _ hj)⟩); (have HO6 := Lib.hid ho6); (have HB6 := Lib.hid hb6); (have hz6 : w5.heap.size ≤ w6.heap.size := hb6.size); clear ho6 hg6 hat6 hb6)
      | (at_builtin; refine wpList_append_at (us := #[.int .i64 id, .int .i64 wt, .int .i64 0, .slice a5 1 c5]) rfl _ _ 102 rfl w5.heap.size _ 4 48 Tryz.underlying102 rrow_info rfl (by decide) v6 l.length (flatRV l) rfl HO6.out rfl rfl ?c0 ?c1 ?c2 ?c3 ?_; (case c0 => simp [Value.oneCell']); (case c1 => exact hz6); (case c2 => exact hl3); (case c3 => exact hl4); intro gg gcap w8 ho8 hg8 hat8; (have HB8 := Lib.hid (HB6.out.trans ⟨hg8.os, hg8.tape, hg8.output, hg8.size, fun j hj => hg8.block j (Nat.lt_of_lt_of_le hj hz6) (fun e => by have := own_block HO6.out j e.symm; omega)⟩ : Below w5.heap.size w5 w8)); (have HO8 := Lib.hid ho8); (have hh8 := (HB8.out.block b hbw5).trans HR5.out.head); (have k1 : w8.cell? ⟨b, 4, none⟩ = some v := fr_cell_of_heap hh8 rfl); (have k2 : w8.frozen? ⟨b, 4, none⟩ = false := fr_free_of_heap hh8); clear ho8 hg8 hat8 hh8))
    go_ret
    have hcl := new_closeB (p := (⟨id, wt, 0, [x]⟩, .slice a5 1 c5)) HR5.out HI5.out HG5.out HLEN.out (by simp) ⟨HO8.out, HB8.out⟩
    refine ⟨ret_int HE.out.symm, ((Fp.of_below (S := fun j => j = b) (box_below2 HB.out)).then_below HB5.out).trans hcl.2 (fun _ _ h => h), _, _, hcl.1, ?_⟩
    rw [List.map_append, HROWS.out]
    rfl
  · have hne : (itE [] x == 0) = false := beq_eq_false_iff_ne.2 he
    have HE := Lib.hid he
    clear hi5 hv5 hB5 z0 z1 he
    go_wp2_with fail
    go_ret
    exact ⟨rfl, (Fp.of_below (S := fun j => j = b) (box_below2 HB.out)).then_below HB5.out, _, l, HR5.out, (HROWS.out.trans (if_neg HE.out)).symm⟩
def DocPostB (G : Nat → Prop) (ro0 ro1 ro2 : Value) (b : Nat) (q : Int) (u : Value) (gv : Bool) (rows : List FRow) (w : World) (e : Ending) (w' : World) : Prop :=
  e = .returned u ∧ Fp (fun j => j = b) w w' ∧ ∃ v' l', RefBt G ro0 ro1 ro2 w' b q gv v' l' ∧ l'.map Prod.fst = rows
theorem r15Push_anyB (id wt : Int) (x : It) (b : Nat) (q : Int) (gv : Bool) (v : Value) (l : List (FRow × Value)) (w : World) (h : RefBt G ro0 ro1 ro2 w b q gv v l) (hfull : ∀ r ∈ l.map Prod.fst, r.its ≠ []) (hf : totR (l.map Prod.fst) < 1000000) :
    Calls Tryz.prog 102 #[.pointer (some ⟨b, 3, none⟩), .int .i64 id, .int .i64 wt, .agg #[.int .i64 x.id, .int .i64 x.cost]] w (DocPostB G ro0 ro1 ro2 b q (.int .i64 (pushE id wt x (l.map Prod.fst))) gv (stepPush id wt x (l.map Prod.fst)) w) := by
  have hsame : ∀ {w'}, Below w.heap.size w w' → pushE id wt x (l.map Prod.fst) = 1 → DocPostB G ro0 ro1 ro2 b q (.int .i64 (pushE id wt x (l.map Prod.fst))) gv (stepPush id wt x (l.map Prod.fst)) w (.returned (.int .i64 1)) w' := fun {w'} hb he => by
    unfold stepPush
    rw [he, if_neg (by decide)]
    exact ⟨rfl, Fp.of_below hb, v, l, h.below hb, rfl⟩
  by_cases hbad : argBad id wt
  · have he : pushE id wt x (l.map Prod.fst) = 1 := by
      unfold pushE
      split
      · rw [if_pos (.inl hbad)]
      · rw [if_pos hbad]
    refine (r15Push_badB id wt x b q gv v l w h hbad).mono ?_
    rintro e w' ⟨rfl, hb⟩
    exact hsame hb he
  · rcases find_at (id := id) (rows := l.map Prod.fst) with ⟨h1, h2⟩ | ⟨k, r, h1, h2, h3, h4⟩
    · have he : pushE id wt x (l.map Prod.fst) = itE [] x := by
        unfold pushE
        rw [h2]
        exact if_neg hbad
      have hlen : l.length < 1000000 := by
        have := tot_len hfull
        rw [List.length_map] at this
        omega
      refine (r15Push_newB id wt x b q gv v l w h (placeF_none h1) hbad hlen).mono ?_
      rintro e w' ⟨rfl, hF, v', l', hR, hm⟩
      unfold stepPush pushR
      rw [he, h1]
      exact ⟨rfl, hF, v', l', hR, hm⟩
    · obtain ⟨p, hp, rfl⟩ := row_val h2
      subst h3
      by_cases hw : p.1.wt = wt
      · subst hw
        have he : pushE p.1.id p.1.wt x (l.map Prod.fst) = itE p.1.its x := by
          unfold pushE
          rw [h4]
          exact if_neg (by rintro (h | h); exact hbad h; exact h rfl)
        have hlen : p.1.its.length < 1000000 := Nat.lt_of_le_of_lt (tot_mem (List.mem_of_getElem? h2)) hf
        refine (r15Push_thereB x b q gv v l k p w h hp (placeF_some h1) hbad hfull hlen).mono ?_
        rintro e w' ⟨rfl, hF, v', l', hR, hm⟩
        unfold stepPush pushR
        rw [he, h1]
        refine ⟨rfl, hF, v', l', hR, ?_⟩
        rw [hm]
        by_cases h0 : itE p.1.its x = 0
        · rw [if_pos h0, if_pos h0]
          simp only
          rw [modify_set h2]
        · rw [if_neg h0, if_neg h0]
          exact set_same h2
      · have he : pushE p.1.id wt x (l.map Prod.fst) = 1 := by
          unfold pushE
          rw [h4]
          exact if_pos (.inr hw)
        refine (r15Push_wtB wt x b q gv v l k p w h hp (placeF_some h1) hbad hw).mono ?_
        rintro e w' ⟨rfl, hb⟩
        exact hsame hb he
theorem r15Drop_anyB (id i : Int) (b : Nat) (q : Int) (gv : Bool) (v : Value) (l : List (FRow × Value)) (w : World) (h : RefBt G ro0 ro1 ro2 w b q gv v l) (hfull : ∀ r ∈ l.map Prod.fst, r.its ≠ []) :
    Calls Tryz.prog 104 #[.pointer (some ⟨b, 3, none⟩), .int .i64 id, .int .i64 i] w (DocPostB G ro0 ro1 ro2 b q (.bool (dropE id i gv (l.map Prod.fst)).1) (dropE id i gv (l.map Prod.fst)).2.1 (dropE id i gv (l.map Prod.fst)).2.2 w) := by
  rcases find_at (id := id) (rows := l.map Prod.fst) with ⟨h1, h2⟩ | ⟨k, r, h1, h2, h3, h4⟩
  · rw [dropE_none h1]
    refine (r15Drop_noneB id i b q gv v l w h (placeF_none h1)).mono ?_
    rintro e w' ⟨rfl, hb⟩
    exact ⟨rfl, Fp.of_below hb, v, l, h.below hb, rfl⟩
  · obtain ⟨p, hp, rfl⟩ := row_val h2
    subst h3
    rcases placeI_cases i p.1.its with ⟨hi, hn⟩ | ⟨j, x, hi, hx, rfl, hn⟩
    · rw [dropE_not h1 h4 hn]
      refine (r15Drop_notB i b q gv v l k p w h hp (placeF_some h1) hi).mono ?_
      rintro e w' ⟨rfl, hb⟩
      exact ⟨rfl, Fp.of_below hb, v, l, h.below hb, rfl⟩
    · rw [dropE_some h1 h4 hn]
      refine (r15Drop_someB x j b q gv v l k p w h hp (placeF_some h1) hi hfull).mono ?_
      rintro e w' ⟨rfl, hF, v', l', hR, hm⟩
      exact ⟨rfl, hF, v', l', hR, hm⟩
end Go.Proofs.YtdbjihkgafhakaaGreatDoor
