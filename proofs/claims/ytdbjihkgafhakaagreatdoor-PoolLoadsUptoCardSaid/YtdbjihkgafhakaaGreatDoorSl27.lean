/-
 law17.PoolLoads: what rows must be, by both; pools that were loaded, side by side with the document's.
 law17.PoolLoads: the walk.
-/
import Derived.Test.YtdbjihkgafhakaaGreatDoorSl22
import Derived.Test.YtdbjihkgafhakaaGreatDoorSl24
import Derived.Test.YtdbjihkgafhakaaGreatDoorSl26
import Derived.Deep.RegionHeld3
namespace Go.Proofs.YtdbjihkgafhakaaGreatDoor
open Go.RowKit Go.Sort
theorem ZiF {a m q next : Int} {A : List AR} : Zcx a m q next A ↔ OkRows17 a m q next A := by
 constructor
 ·rintro ⟨h1, h2, h3, h4⟩
  refine ⟨h1, fun i z hz => ?_, h4⟩
  obtain ⟨g1, g2, g3, g4, g5⟩ := h2 i z hz
  refine ⟨g1, g3, g4, fun j y hj hy => g2 y (List.mem_of_getElem? (i := j) (by rw [List.getElem?_take_of_lt hj]; exact hy)), g5, fun t ht => h3 t (List.mem_flatMap.2 ⟨z, List.mem_of_getElem? hz, ht⟩)⟩
 ·rintro ⟨h1, h2, h3⟩
  refine ⟨h1, fun i z hz => ?_, fun t ht => ?_, h3⟩
  ·have g := h2 i z hz
   refine ⟨g.uses, fun y hy => ?_, g.served, g.shares, g.share⟩
   obtain ⟨j, hj⟩ := List.getElem?_of_mem hy
   have hji : j < i := by have := (List.getElem?_eq_some_iff.1 hj).1; rw [List.length_take] at this; omega
   rw [List.getElem?_take_of_lt hji] at hj
   exact g.name j y hji hj
  ·obtain ⟨z, hz, ht⟩ := List.mem_flatMap.1 ht
   obtain ⟨i, hi⟩ := List.getElem?_of_mem hz
   exact (h2 i z hi).nums t ht
theorem ZiG (a m q next : Int) (v : Value) (T : List LR) (w : World) (hv : SlAt w v T.length (T.flatMap encLR)) (hT : ∀ t ∈ T, PVAt w t.r t.A t.sh ∧ ShOk t.sh ∧ ∀ s ∈ t.A.served, I64 s) (hlen : T.length ≤ 1000) (hm : m ≤ 10) :
 Calls Tryz.prog 22 #[.int .i64 a, .int .i64 m, .int .i64 q, v, .int .i64 next] w (ZcJ a m q next (T.map LR.A) w) := by
 by_cases hh : 1 ≤ a ∧ 1 ≤ m ∧ 1 ≤ q ∧ q ≤ 64 ∧ (T.length : Int) ≤ a
 ·obtain ⟨mm, rfl⟩ : ∃ mm : Nat, m = mm := ⟨m.toNat, by omega⟩
  exact ZiC a q next mm v T w hv hT hlen (by omega) ⟨hh.1, by omega, hh.2.2.1, hh.2.2.2.1, hh.2.2.2.2⟩
 ·obtain ⟨la, lc, e, _⟩ := hv.form
  exact ZhD a m q next v T w ⟨la, lc, e⟩ hh
theorem ZeK (a m q next : Int) (v : Value) (l : List QP) (w : World) (hl : SlAt w v l.length (l.flatMap encQP)) (hi : ∀ p ∈ l, QPAt q w p) (hsz : ZiA l) (hlen : l.length ≤ 1000) (hm : m ≤ 10) :
 Calls Tryz.prog 24 #[.int .i64 a, .int .i64 m, .int .i64 q, v, .int .i64 next] w (Zd1 a m q next (l.map QP.abs) w) := by
 by_cases hh : 1 ≤ a ∧ 1 ≤ m ∧ 1 ≤ q ∧ q ≤ 64 ∧ (l.length : Int) ≤ a ∧ 0 ≤ next
 ·obtain ⟨mm, rfl⟩ : ∃ mm : Nat, m = mm := ⟨m.toNat, by omega⟩
  exact ZiB a q next mm v l w hl hi hsz hlen (by omega) ⟨hh.1, by omega, hh.2.2⟩
 ·exact ZhB a m q next v l w hl hh
section
variable {G : Nat → Prop} {w w' : World} {v : Value}
theorem Zdb {a : Option Addr} {n cap : Nat} {us : List Value} (hc : ∀ (j : Nat) u, us[j]? = some u → ∃ g off, a = some ⟨g, off, none⟩ ∧ w.cell? ⟨g, off + j, none⟩ = some u) (hne : us ≠ []) (hG : ∀ k, k < w.heap.size → G k) : InG G w (.slice a n cap) := by
 obtain ⟨u, r, rfl⟩ : ∃ u r, us = u :: r := by
  cases us with
  | nil => exact absurd rfl hne
  | cons u r => exact ⟨u, r, rfl⟩
 obtain ⟨g, off, rfl, h0⟩ := hc 0 u rfl
 intro k hk
 simp only [Value.ownBlock, Option.some.injEq] at hk
 subst hk
 have hlt := World.block_lt_of_cell? w _ h0
 exact ⟨hG _ hlt, hlt⟩
theorem ZiH {n : Nat} {us : List Value} (h : SlAt w v n us) (hne : us ≠ []) (hG : ∀ k, k < w.heap.size → G k) : InG G w v := by
 obtain ⟨a, cap, rfl, _, hc⟩ := h
 exact Zdb hc hne hG
theorem ZjO {q : Int} {gv : Bool} {rows : List TRow} (h : okTL q gv rows) : ∀ x ∈ rows, x.rows ≠ [] ∧ ∀ r ∈ x.rows, r.its ≠ [] := fun x hx => by
 obtain ⟨k, hk⟩ := List.mem_iff_getElem?.1 hx
 have ho := h.2.2.2 k x hk
 refine ⟨ho.2.2.2.2.1, fun r hr => ?_⟩
 obtain ⟨j, hj⟩ := List.mem_iff_getElem?.1 hr
 exact (ho.2.2.2.2.2.2.2.2 j r hj).2.2.2.1
end
def Zgs (q : Int) (l : List QP) : Prop := ∀ p ∈ l, ∀ y ∈ p.sh, y.l.length ≤ 10 ∧ totT (y.l.map Prod.fst) ≤ 600000 ∧ ∀ d ∈ y.l, d.2.1 = q ∧ d.2.2.2.length ≤ 10
theorem Zmr {G : Nat → Prop} {a next : Int} {m b : Nat} {q : Int} {w w' : World} {v : Value} {l : List QP} (hl : SlAt w v l.length (l.flatMap encQP)) (hi : ∀ p ∈ l, QPAt q w p) (hok : OkRows17 a m q next (l.map QP.abs)) (hsz : Zgs q l) (hlen : l.length ≤ 1000) (hb : Below w.heap.size w w') (hG : ∀ k, k < w.heap.size → G k) (hh : w'.heap[b]? = some (.cells (pC ⟨a, m, q⟩ next v) 45 (0, 0))) (hnb : ¬ G b) (hup : ∀ k, w'.heap.size ≤ k → G k) : RefP G w' b ⟨a, m, q⟩ next v l := by
 have hrow : ∀ p ∈ l, ∃ i, OkRow17 m q next (l.map QP.abs) i p.abs := fun p hp => by
  obtain ⟨i, hi⟩ := List.getElem?_of_mem hp
  exact ⟨i, hok.row i p.abs (by rw [List.getElem?_map, hi]; rfl)⟩
 refine ⟨hh, hl.below hb, fun p hp => (hi p hp).below hb, fun hne => (ZiH hl hne hG).grow hb.size, fun p hp => ?_, hnb, hup, hlen, fun p hp => ?_⟩
 ·have hp0 := hi p hp
  obtain ⟨i, hr⟩ := hrow p hp
  refine QPG.grow ⟨fun hne => ZiH hp0.sv hne hG, fun hne => ZiH hp0.hv hne hG, fun s hs => ?_⟩ hb.size
  have hD := hp0.inv s hs
  have hz := hsz p hp s hs
  have hfull := ZjO (hr.share (QS.abs s) (List.mem_map_of_mem hs))
  refine ⟨fun hne => ?_, fun d hd => ?_, by omega, fun d hd => (hz.2.2 d hd).1⟩
  ·obtain ⟨a', cap, hv, _, hc⟩ := hD.rows
   rw [hv]
   refine Zdb hc (fun e => hne ?_) hG
   have h := congrArg List.length e
   rw [Z6, Zbc encDV 6 (fun _ => rfl)] at h
   exact List.eq_nil_of_length_eq_zero (by rw [List.length_nil] at h; omega)
  ·have hI := hD.inv d hd
   have hdz := hz.2.2 d hd
   have htr := hfull d.1 (List.mem_map_of_mem hd)
   refine ⟨fun hne => ?_, fun r hr => ?_, by omega, fun r hr => ?_⟩
   ·obtain ⟨a', cap, hv, _, hc⟩ := hI.rows.rows
    rw [hv]
    refine Zdb hc (fun e => hne ?_) hG
    have h := congrArg List.length e
    rw [Zt, Zbc encRV 4 (fun _ => rfl)] at h
    exact List.eq_nil_of_length_eq_zero (by rw [List.length_nil] at h; omega)
   ·have hm : r.1 ∈ d.1.rows := by rw [← hI.same]; exact List.mem_map_of_mem hr
    obtain ⟨a', cap, hv, hc⟩ := hI.rows.its r hr
    rw [hv]
    refine Zdb hc (fun e => htr.2 r.1 hm ?_) hG
    refine List.eq_nil_of_length_eq_zero ?_
    have h := congrArg List.length e
    rw [ZgJ, List.length_nil] at h
    omega
   ·have hm : r.1 ∈ d.1.rows := by rw [← hI.same]; exact List.mem_map_of_mem hr
    exact ((Zdu hfull (Nat.le_trans hz.2.1 (by decide))).2 d.1 (List.mem_map_of_mem hd)).2 r.1 hm
 ·obtain ⟨i, hr⟩ := hrow p hp
  exact ⟨Int.ofNat_inj.1 hr.served, by have := Int.ofNat_inj.1 hr.shares; rw [show p.abs.sh = p.sh.map QS.abs from rfl, List.length_map] at this; exact this⟩
def DNums (y : QS) : Prop := (∀ d ∈ y.l, I64 d.1.id ∧ ∀ r ∈ d.2.2.2, I64 r.1.id ∧ ∀ z ∈ r.1.its, I64 z.id)
theorem Zn4 {sh : List (Value × List TV)} {p : QP} (h1 : sh.map (fun s => s.2.map Prod.fst) = p.sh.map (fun y => y.l.map Prod.fst)) (h2 : sh.map (fun s => s.2.map (fun z => z.2.2)) = p.sh.map (fun y => y.l.map (fun d => d.2.2.2)))
 (hn : ∀ y ∈ p.sh, DNums y) (hz : ∀ y ∈ p.sh, y.l.length ≤ 10 ∧ totT (y.l.map Prod.fst) ≤ 600000 ∧ ∀ d ∈ y.l, d.2.2.2.length ≤ 10) : ShOk sh := by
 intro s hs
 obtain ⟨i, hi⟩ := List.getElem?_of_mem hs
 have g1 := congrArg (fun z => z[i]?) h1
 have g2 := congrArg (fun z => z[i]?) h2
 simp only [List.getElem?_map, hi, Option.map_some] at g1 g2
 rcases hy : p.sh[i]? with _ | y
 ·rw [hy] at g1; cases g1
 ·rw [hy] at g1 g2
  simp only [Option.map_some, Option.some.injEq] at g1 g2
  have hm := List.mem_of_getElem? hy
  have hz0 := hz y hm
  have hl : s.2.length = y.l.length := by have h := congrArg List.length g1; simpa using h
  have hrow : ∀ q ∈ s.2, ∃ d ∈ y.l, q.2.2 = d.2.2.2 := fun q hq => by
   have h3 : q.2.2 ∈ s.2.map (fun z => z.2.2) := List.mem_map_of_mem hq
   rw [g2] at h3
   obtain ⟨d, hd, e⟩ := List.mem_map.1 h3
   exact ⟨d, hd, e.symm⟩
  refine ⟨fun q hq => ⟨?_, fun r hr => ?_⟩, by rw [g1]; omega, by omega, fun q hq => ?_⟩
  ·have h3 : q.1 ∈ s.2.map Prod.fst := List.mem_map_of_mem hq
   rw [g1] at h3
   obtain ⟨d, hd, e⟩ := List.mem_map.1 h3
   rw [← e]
   exact (hn y hm d hd).1
  ·obtain ⟨d, hd, e⟩ := hrow q hq
   rw [e] at hr
   exact (hn y hm d hd).2 r hr
  ·obtain ⟨d, hd, e⟩ := hrow q hq
   rw [e]
   have := hz0.2.2 d hd
   omega
theorem Zn5 {w w' : World} {v : Value} {l : List QP} {T : List LR} (h : BIn w w' v l T) (hl : T.length = l.length) : T.map LR.A = l.map QP.abs := by
 refine List.ext_getElem? fun i => ?_
 rw [List.getElem?_map, List.getElem?_map]
 rcases ht : T[i]? with _ | t
 ·have h1 := List.getElem?_eq_none_iff.1 ht
  rw [List.getElem?_eq_none (by omega)]
  rfl
 ·obtain ⟨p, hp⟩ : ∃ p, l[i]? = some p := ⟨_, List.getElem?_eq_getElem (by have := (List.getElem?_eq_some_iff.1 ht).1; omega)⟩
  rw [hp]
  simp [(h.row i t p ht hp).2]
theorem Zms {a m q next : Int} {w w6 : World} {v6 : Value} {l : List QP} {T : List LR} (hI : BIn w w6 v6 l T) (hl : T.length = l.length) (hb : Below w.heap.size w w6) (hq : ∀ p ∈ l, QPAt q w p) (hn : ∀ p ∈ l, ∀ y ∈ p.sh, DNums y) (hs : ∀ p ∈ l, ∀ t ∈ p.served, I64 t) (hz : Zgs q l) (hlen : l.length ≤ 1000) (hm : m ≤ 10) :
 Calls Tryz.prog 22 #[.int .i64 a, .int .i64 m, .int .i64 q, v6, .int .i64 next] w6 (ZcJ a m q next (l.map QP.abs) w6) := by
 have h := ZiG a m q next v6 T w6 (Zbj hI.own) (fun t ht => by
  obtain ⟨i, hi⟩ := List.getElem?_of_mem ht
  obtain ⟨p, hp⟩ : ∃ p, l[i]? = some p := ⟨_, List.getElem?_eq_getElem (by have := (List.getElem?_eq_some_iff.1 hi).1; omega)⟩
  obtain ⟨h1, h2⟩ := hI.row i t p hi hp
  have hm := List.mem_of_getElem? hp
  rw [h2]
  exact ⟨h1.at hb (hq p hm), Zn4 h1.same h1.lists (hn p hm) (fun y hy => ⟨(hz p hm y hy).1, (hz p hm y hy).2.1, fun d hd => ((hz p hm y hy).2.2 d hd).2⟩), hs p hm⟩) (by omega) hm
 rw [Zn5 hI hl] at h
 exact h
theorem Zld {a m q next : Int} {w w6 w7 w9 : World} {P mm b : Nat} {v dv : Value} {ρ : Roles} {L : List PN} {l : List QP} (hmm : m = (mm : Nat)) (hst : PlState w6 P ⟨a, mm, q⟩ next v L ρ w7) (hA : L.map PN.abs = l.map QP.abs) (hfar : ∀ j, w7.heap.size ≤ j → ρ j = []) (hl : SlAt w dv l.length (l.flatMap encQP)) (hi : ∀ p ∈ l, QPAt q w p) (hok : OkRows17 a m q next (l.map QP.abs)) (hsz : Zgs q l) (hnm : ∀ p ∈ l, p.name.size ≤ 200) (hnx : I64 next) (ha : a ≤ 8) (hm4 : m ≤ 4)
 (hb : Below w.heap.size w w6) (hw : w9 = w7.alloc (.cells (pC ⟨a, mm, q⟩ next dv) 45)) (hbb : b = w7.heap.size) : BothV w6 P b ⟨a, mm, q⟩ next v L ρ dv l w9 := by
 subst hmm
 have hz67 := hst.below.size
 have hz := hb.size
 have hb79 : Below w7.heap.size w7 w9 := by rw [hw]; exact box_below
 have hz9 : w9.heap.size = w7.heap.size + 1 := by rw [hw]; simp
 have hhead := hok.head
 have hlen : l.length ≤ 1000 := by rw [List.length_map] at hhead; omega
 have hb9 : Below w.heap.size w w9 := hb.trans ((hst.below.trans (hb79.mono hz67)).mono hz)
 refine ⟨hst.on hb79, Zmr (G := FreeP ρ b) hl hi hok hsz hlen hb9 (fun k hk => ⟨hst.old k (by omega), by omega⟩) (by rw [hw, hbb]; exact Zf) (fun h => h.2 rfl) (fun k hk => ⟨hfar k (by omega), by omega⟩), hfar b (by omega), by omega, hA, ?_⟩
 have hab : ∀ n ∈ L, ∃ i p, l[i]? = some p ∧ n.abs = p.abs ∧ p ∈ l ∧ OkRow17 mm q next (l.map QP.abs) i p.abs := fun n hn => by
  obtain ⟨i, hi⟩ := List.getElem?_of_mem hn
  obtain ⟨p, hp, e⟩ := ZcZ hA hi
  exact ⟨i, p, hp, e, List.mem_of_getElem? hp, hok.row i p.abs (by rw [List.getElem?_map, hp]; rfl)⟩
 have hLl : L.length = l.length := ZgA hA
 rw [List.length_map] at hhead
 refine ⟨by rw [hLl]; exact hhead.2.2.2.2.1, fun n hn => ?_, fun i j n n2 h1 h2 he => ?_, fun n hn => ?_, fun n hn c hc => ?_, fun n hn => ?_, ⟨⟨hhead.1, ha⟩, ⟨by have := hhead.2.1; show 1 ≤ mm; omega, by show mm ≤ 4; omega⟩, ⟨hhead.2.2.1, hhead.2.2.2.1⟩⟩, hnx⟩
 ·obtain ⟨i, p, _, e, _, hr⟩ := hab n hn
  have h3 := Int.ofNat_inj.1 hr.served
  rw [(Zbk e).1]
  exact h3
 ·obtain ⟨p1, g1, e1⟩ := ZcZ hA h1
  obtain ⟨p2, g2, e2⟩ := ZcZ hA h2
  have hn12 : p1.abs.name = p2.abs.name := by
   show p1.name = p2.name
   rw [← (Zbk e1).2.2, ← (Zbk e2).2.2, he]
  have r1 := hok.row i p1.abs (by rw [List.getElem?_map, g1]; rfl)
  have r2 := hok.row j p2.abs (by rw [List.getElem?_map, g2]; rfl)
  rcases Nat.lt_trichotomy i j with h | h | h
  ·exact absurd hn12 (r2.name i p1.abs h (by rw [List.getElem?_map, g1]; rfl))
  ·exact h
  ·exact absurd hn12.symm (r1.name j p2.abs h (by rw [List.getElem?_map, g2]; rfl))
 ·obtain ⟨i, p, _, e, _, hr⟩ := hab n hn
  rw [show n.uses = p.uses from congrArg AR.uses e]
  exact hr.uses
 ·obtain ⟨i, p, _, e, hp, hr⟩ := hab n hn
  obtain ⟨j, hj⟩ := List.getElem?_of_mem hc
  obtain ⟨_, y, hy, _, hrows⟩ := ZeG e hj
  rw [hrows]
  exact Nat.le_trans (hsz p hp y (List.mem_of_getElem? hy)).2.1 (by decide)
 ·obtain ⟨i, p, _, e, hp, _⟩ := hab n hn
  rw [(Zbk e).2.2]
  exact hnm p hp
def ldC (a b c : Int) (v : Value) (next : Int) : Array Value := #[.int .i64 a, .int .i64 b, .int .i64 c, v, .int .i64 next]
structure QXOk (p : QX) : Prop where
 served : ∀ t ∈ p.served, I64 t
 tot : ∀ s ∈ p.sh, totT (s.2.l.map Prod.fst) ≤ 600000
 num : ∀ s ∈ p.sh, ∀ d ∈ s.2.l, I64 d.1.id ∧ ∀ r ∈ d.2.2.2, I64 r.1.id ∧ ∀ y ∈ r.1.its, I64 y.id
 few : p.sh.length ≤ 1000000 ∧ ∀ s ∈ p.sh, s.2.l.length ≤ 1000000000
def ZiI (c : Int) (p : QX) : Prop := p.sh.length ≤ 4 ∧ p.name.size ≤ 200 ∧ Za3 c p
set_option maxRecDepth 100000 in
set_option maxHeartbeats 32000000 in
theorem ZhE (a b c next : Int) (v va : Value) (l0 : List QX) (l : List Pa) (W : World) (hr : Ready W) (hv : SlAt W v l0.length (l0.flatMap encQX)) (hi : ∀ p ∈ l0, QXAt W p) (hok : ∀ p ∈ l0, QXOk p) (hnx : I64 next) (hl : PasAt W va l) :
 Calls Tryz.prog 5 #[.agg (ldC a b c v next), va] W (Zc2 W) := by
 have HR := Lib.hid hr
 have HV := Lib.hid hv
 have HI := Lib.hid hi
 have HOK := Lib.hid hok
 have HNX := Lib.hid hnx
 have HA := Lib.hid hl
 obtain ⟨la, lc, rfl, -⟩ := hv.form
 obtain ⟨sa, cap, rfl, -⟩ := hl
 clear hr hv hi hok hnx
 unfold ldC
 go_enter Tryz.func5, Tryz.ntmps5
 go_upto_region 1 with fail
 obtain ⟨w1, hw1⟩ : ∃ w1 : World, w1 = W.alloc (.cells #[.int .i64 a, .int .i64 b, .int .i64 c, .slice la l0.length lc, .int .i64 next] 51) := ⟨_, rfl⟩
 obtain ⟨xb, hxb⟩ : ∃ xb : Nat, xb = W.heap.size := ⟨_, rfl⟩
 rw [← hw1, ← hxb]
 have hx1 : w1.heap[xb]? = some (.cells (ldC a b c (.slice la l0.length lc) next) 51 (0, 0)) := by rw [hw1, hxb]; exact Zf
 have HX1 := Lib.hid hx1
 have HB1 := Lib.hid (show Below W.heap.size W w1 by rw [hw1]; exact box_below)
 have HXB := Lib.hid hxb
 have hlive : ∀ w3, Below W.heap.size W w3 → Calls Tryz.prog 8 #[] w3 (fun e w4 => e = .returned (.bool true) ∧ Below W.heap.size W w4) := fun w3 hb3 => by
  refine (ZkK w3 (HR.out.below hb3)).mono ?_
  rintro e w4 ⟨rfl, hb4⟩
  exact ⟨rfl, hb3.trans (hb4.mono hb3.size)⟩
 have HLV := Lib.hid hlive
 have i0 : w1.cell? ⟨xb, 0, none⟩ = some (.int .i64 a) := Za hx1 rfl
 have i1 : w1.cell? ⟨xb, 1, none⟩ = some (.int .i64 b) := Za hx1 rfl
 have i3 : w1.cell? ⟨xb, 3, none⟩ = some (.slice la l0.length lc) := Za hx1 rfl
 clear hw1 hxb hx1 hlive
 have hcs : 8 < (l0.length : Int) ∨ (¬ 8 < (l0.length : Int) ∧ 30 < (l.length : Int)) ∨ (¬ 8 < (l0.length : Int) ∧ ¬ 30 < (l.length : Int) ∧ 8 < a) ∨ (¬ 8 < (l0.length : Int) ∧ ¬ 30 < (l.length : Int) ∧ ¬ 8 < a ∧ 4 < b) ∨ (¬ 8 < (l0.length : Int) ∧ ¬ 30 < (l.length : Int) ∧ ¬ 8 < a ∧ ¬ 4 < b) := by omega
 rcases hcs with g1 | ⟨g1, g2⟩ | ⟨g1, g2, g3⟩ | ⟨g1, g2, g3, g4⟩ | ⟨g1, g2, g3, g4⟩
 any_goals
  go_wp2_with fail
  refine (HLV.out _ HB1.out).mono ?_
  rintro e w4 ⟨rfl, hb4⟩
  have HB4 := Lib.hid hb4
  clear hb4
  go_wp2_with fail
  go_ret
  exact ⟨rfl, HB4.out⟩
 have HG := Lib.hid (And.intro g1 (And.intro g2 (And.intro g3 g4)))
 go_wp2_with fail
 clear i0 i1 i3
 go_loopg [5] l0.length (fun g i wr => ∃ k : Nat, g = l0.length - k ∧ i = .int .i64 k ∧ k ≤ l0.length ∧ (∀ (t : Nat) p, t < k → l0[t]? = some p → ZiI c p) ∧ Below w1.heap.size w1 wr)
 case atStart => exact ⟨0, rfl, rfl, Nat.zero_le _, fun t p ht => by omega, Below.refl _ _⟩
 case round =>
  obtain ⟨k, hg, rfl, hk, hsm, hb⟩ := hrel
  have HGK := Lib.hid hg
  have HSM := Lib.hid hsm
  have HB := Lib.hid hb
  have hx := (hb.block _ (Zb HX1.out)).trans HX1.out
  have HXR := Lib.hid hx
  have HBW := Lib.hid (HB1.out.trans (hb.mono HB1.out.size))
  have i3 : wr.cell? ⟨xb, 3, none⟩ = some (.slice la l0.length lc) := Za hx rfl
  clear hg hsm hb
  by_cases hlt : k < l0.length
  ·obtain ⟨p, hp⟩ : ∃ p, l0[k]? = some p := ⟨_, List.getElem?_eq_getElem hlt⟩
   have HP := Lib.hid hp
   have HPO := Lib.hid (HOK.out p (List.mem_of_getElem? hp))
   have HPX := Lib.hid ((HI.out p (List.mem_of_getElem? hp)).below HBW.out)
   obtain ⟨g, off, hla, hc1⟩ := (HV.out.below HBW.out).cells Zhg (by decide) hp
   subst hla
   obtain ⟨qa, qc, hqv, -⟩ := HPX.out.sv.form
   obtain ⟨ha, hc, hhv, -⟩ := HPX.out.hv.form
   have j3 := cell_regrown i3
   have j2 := cell_regrown (show wr.cell? ⟨xb, 2, none⟩ = some (.int .i64 c) from Za hx rfl)
   have c0 := cell_regrown (show wr.cell? ⟨g, off + k * 4, none⟩ = some (.string p.name) from hc1 0 _ rfl)
   have c1 := cell_regrown (show wr.cell? ⟨g, off + k * 4 + 1, none⟩ = some (.int .i64 p.uses) from hc1 1 _ rfl)
   have c2 := cell_regrown (show wr.cell? ⟨g, off + k * 4 + 2, none⟩ = some (.slice qa p.served.length qc) by rw [← hqv]; exact hc1 2 _ rfl)
   have c3 := cell_regrown (show wr.cell? ⟨g, off + k * 4 + 3, none⟩ = some (.slice ha p.sh.length hc) by rw [← hhv]; exact hc1 3 _ rfl)
   have hkl : (k : Int) < (l0.length : Int) := by omega
   have HQ := Lib.hid (show ∀ (d : Nat) (os : Array Obj) (r : Bool), p.sh.length ≤ 4 → (r = true ↔ Za3 c p) → Calls Tryz.prog 21 #[.agg #[.string p.name, .int .i64 p.uses, .slice qa p.served.length qc, .slice ha p.sh.length hc], .int .i64 c] (grow (redrawn wr d) os) (fun e w' => e = .returned (.bool r) ∧ Below (grow (redrawn wr d) os).heap.size (grow (redrawn wr d) os) w') from fun d os r h4 hr => by
    have h := ZiE c p _ (HPX.out.below (below_regrown wr d os)) (by omega) HPO.out.few.2
    unfold ZeV at h
    rw [hqv, hhv] at h
    refine h.mono ?_
    rintro e w' ⟨⟨r2, rfl, hr2⟩, hb⟩
    exact ⟨by rw [Ziz hr2 hr], hb⟩)
   clear hp hc1 hqv hhv hx
   have hcs : 4 < (p.sh.length : Int) ∨ (¬ 4 < (p.sh.length : Int) ∧ 200 < (p.name.size : Int)) ∨ (¬ 4 < (p.sh.length : Int) ∧ ¬ 200 < (p.name.size : Int)) := by omega
   rcases hcs with h1 | ⟨h1, h2⟩ | ⟨h1, h2⟩
   ·clear HQ
    go_upto_region 6 with fail
    refine wp_region_quiet_below (by kernel_rfl) (by kernel_rfl) ?_
    repeat (go_big_quiet_step (fail))
    refine wpQuiet_nil ?_
    rintro _ ⟨⟨dq, osq⟩, rfl⟩
    obtain ⟨w4, hw4⟩ : ∃ w4 : World, w4 = grow (redrawn wr dq) osq := ⟨_, rfl⟩
    have HB4 := Lib.hid (HB.out.trans ((show Below wr.heap.size wr w4 by rw [hw4]; exact below_regrown wr dq osq).mono HB.out.size))
    rw [show (grow (redrawn wr (Regrown.mk dq osq).d) (Regrown.mk dq osq).os) = w4 from hw4.symm]
    clear hw4 i3 j3 j2 c0 c1 c2 c3
    go_wp2_with fail
    refine (HLV.out _ (HB1.out.trans (HB4.out.mono HB1.out.size))).mono ?_
    rintro e w5 ⟨rfl, hb5⟩
    have HB5 := Lib.hid hb5
    clear hb5
    go_wp2_with fail
    go_ret
    exact ⟨rfl, HB5.out⟩
   ·clear HQ
    go_upto_region 6 with fail
    refine wp_region_quiet_below (by kernel_rfl) (by kernel_rfl) ?_
    repeat (go_big_quiet_step (fail))
    refine wpQuiet_nil ?_
    rintro _ ⟨⟨dq, osq⟩, rfl⟩
    obtain ⟨w4, hw4⟩ : ∃ w4 : World, w4 = grow (redrawn wr dq) osq := ⟨_, rfl⟩
    have HB4 := Lib.hid (HB.out.trans ((show Below wr.heap.size wr w4 by rw [hw4]; exact below_regrown wr dq osq).mono HB.out.size))
    rw [show (grow (redrawn wr (Regrown.mk dq osq).d) (Regrown.mk dq osq).os) = w4 from hw4.symm]
    clear hw4 i3 j3 j2 c0 c1 c2 c3
    go_wp2_with fail
    refine (HLV.out _ (HB1.out.trans (HB4.out.mono HB1.out.size))).mono ?_
    rintro e w5 ⟨rfl, hb5⟩
    have HB5 := Lib.hid hb5
    clear hb5
    go_wp2_with fail
    go_ret
    exact ⟨rfl, HB5.out⟩
   ·by_cases hqk : Za3 c p
    ·have HQ2 := Lib.hid (fun d os => HQ.out d os true (by omega) ⟨fun _ => hqk, fun _ => rfl⟩)
     have HSK := Lib.hid (show ZiI c p from ⟨by omega, by omega, hqk⟩)
     clear HQ hqk
     go_upto_region 6 with fail
     refine wp_region_quiet_below (by kernel_rfl) (by kernel_rfl) ?_
     repeat (go_big_quiet_step (exact Calls.regrown_of (HQ2.out _ _)))
     refine wpQuiet_nil ?_
     rintro _ ⟨⟨dq, osq⟩, rfl⟩
     obtain ⟨w4, hw4⟩ : ∃ w4 : World, w4 = grow (redrawn wr dq) osq := ⟨_, rfl⟩
     have HB4 := Lib.hid (HB.out.trans ((show Below wr.heap.size wr w4 by rw [hw4]; exact below_regrown wr dq osq).mono HB.out.size))
     rw [show (grow (redrawn wr (Regrown.mk dq osq).d) (Regrown.mk dq osq).os) = w4 from hw4.symm]
     clear hw4 i3 j3 j2 c0 c1 c2 c3
     have hlen0 := HG.out.1
     go_wp2_with fail
     go_roundg (l0.length - (k + 1))
     case rel =>
      refine ⟨k + 1, rfl, by go_num, by omega, fun t z ht hz => ?_, HB4.out⟩
      rcases Nat.lt_or_ge t k with h | h
      ·exact HSM.out t z h hz
      ·obtain rfl : t = k := by omega
       obtain rfl := Option.some.inj (HP.out.symm.trans hz)
       exact HSK.out
     case measure => have := HGK.out; omega
    ·have HQ2 := Lib.hid (fun d os => HQ.out d os false (by omega) ⟨fun h => absurd h (by decide), fun h => absurd h hqk⟩)
     clear HQ hqk
     go_upto_region 6 with fail
     refine wp_region_quiet_below (by kernel_rfl) (by kernel_rfl) ?_
     repeat (go_big_quiet_step (exact Calls.regrown_of (HQ2.out _ _)))
     refine wpQuiet_nil ?_
     rintro _ ⟨⟨dq, osq⟩, rfl⟩
     obtain ⟨w4, hw4⟩ : ∃ w4 : World, w4 = grow (redrawn wr dq) osq := ⟨_, rfl⟩
     have HB4 := Lib.hid (HB.out.trans ((show Below wr.heap.size wr w4 by rw [hw4]; exact below_regrown wr dq osq).mono HB.out.size))
     rw [show (grow (redrawn wr (Regrown.mk dq osq).d) (Regrown.mk dq osq).os) = w4 from hw4.symm]
     clear hw4 i3 j3 j2 c0 c1 c2 c3
     go_wp2_with fail
     refine (HLV.out _ (HB1.out.trans (HB4.out.mono HB1.out.size))).mono ?_
     rintro e w5 ⟨rfl, hb5⟩
     have HB5 := Lib.hid hb5
     clear hb5
     go_wp2_with fail
     go_ret
     exact ⟨rfl, HB5.out⟩
  ·have hs0 : ∀ p ∈ l0, ZiI c p := fun p hp => by
    obtain ⟨t, ht⟩ := List.getElem?_of_mem hp
    exact HSM.out t p (by have := (List.getElem?_eq_some_iff.1 ht).1; omega) ht
   obtain ⟨L0, hL0⟩ : ∃ L0, L0 = l0.map QX.toQ := ⟨_, rfl⟩
   have hLl : L0.length = l0.length := by rw [hL0, List.length_map]
   have hmem : ∀ p ∈ L0, ∃ p0 ∈ l0, p = p0.toQ := fun p hp => by
    rw [hL0] at hp
    obtain ⟨p0, h0, e⟩ := List.mem_map.1 hp
    exact ⟨p0, h0, e.symm⟩
   have HSL := Lib.hid (show SlAt W (.slice la l0.length lc) L0.length (L0.flatMap encQP) by rw [hLl, hL0, ← Zok]; exact HV.out)
   have HQA := Lib.hid (show ∀ p ∈ L0, QPAt c W p from fun p hp => by
    obtain ⟨p0, h0, rfl⟩ := hmem p hp
    exact (HI.out p0 h0).toQ (fun s hs => ((hs0 p0 h0).2.2 s hs).1))
   have HSD := Lib.hid (show Zgs c L0 from fun p hp y hy => by
    obtain ⟨p0, h0, rfl⟩ := hmem p hp
    obtain ⟨s, hs, rfl⟩ := List.mem_map.1 hy
    have hq := (hs0 p0 h0).2.2 s hs
    refine ⟨?_, (HOK.out p0 h0).tot s hs, fun d hd => ⟨(hq.2 d hd).1, (hq.2 d hd).2.2⟩⟩
    rcases hsl : s.2.l with _ | ⟨d, ds⟩
    ·simp
    ·rw [← hsl]
     exact (hq.2 d (by rw [hsl]; simp)).2.1)
   have HDN := Lib.hid (show ∀ p ∈ L0, ∀ y ∈ p.sh, DNums y from fun p hp y hy => by
    obtain ⟨p0, h0, rfl⟩ := hmem p hp
    obtain ⟨s, hs, rfl⟩ := List.mem_map.1 hy
    exact (HOK.out p0 h0).num s hs)
   have HSV := Lib.hid (show ∀ p ∈ L0, ∀ t ∈ p.served, I64 t from fun p hp => by
    obtain ⟨p0, h0, rfl⟩ := hmem p hp
    exact (HOK.out p0 h0).served)
   have HNM := Lib.hid (show ∀ p ∈ L0, p.name.size ≤ 200 from fun p hp => by
    obtain ⟨p0, h0, rfl⟩ := hmem p hp
    exact (hs0 p0 h0).2.1)
   have HSB := Lib.hid (show Zmp L0 from fun p hp => by
    obtain ⟨p0, h0, rfl⟩ := hmem p hp
    refine ⟨by show (p0.sh.map Prod.snd).length ≤ 1000; rw [List.length_map]; have := (hs0 p0 h0).1; omega, fun y hy => ?_⟩
    have h := HSD.out _ hp y hy
    exact ⟨by omega, fun d hd => by have := (h.2.2 d hd).2; omega⟩)
   have HSQ := Lib.hid (show ZiA L0 from fun p hp y hy => by
    have h := HSD.out p hp y hy
    exact ⟨by omega, by omega, fun d hd => by have := (h.2.2 d hd).2; omega⟩)
   have HLL := Lib.hid (show L0.length = l0.length ∧ L0.length ≤ 8 from ⟨hLl, by have := HG.out.1; omega⟩)
   clear hs0 hL0 hLl hmem
   have i0 : wr.cell? ⟨xb, 0, none⟩ = some (.int .i64 a) := Za HXR.out rfl
   have i1 : wr.cell? ⟨xb, 1, none⟩ = some (.int .i64 b) := Za HXR.out rfl
   have i2 : wr.cell? ⟨xb, 2, none⟩ = some (.int .i64 c) := Za HXR.out rfl
   have i4 : wr.cell? ⟨xb, 4, none⟩ = some (.int .i64 next) := Za HXR.out rfl
   have hbd : Below wr.heap.size wr wr.drew := ⟨rfl, rfl, rfl, Nat.le_refl _, fun _ _ => rfl⟩
   have HBD := Lib.hid (HBW.out.trans (hbd.mono HBW.out.size))
   have HBACK := Lib.hid (Zlc c (.slice la l0.length lc) L0 wr.drew (HSL.out.below HBD.out) (fun p hp => (HQA.out p hp).below HBD.out) (by have := HLL.out; omega) HSB.out)
   have HLOAD := Lib.hid (fun (w6 : World) (v6 : Value) (T : List LR) (hI : BIn wr.drew w6 v6 L0 T) (hl : T.length = L0.length) (hb : Below wr.drew.heap.size wr.drew w6) => Zms (a := a) (m := b) (next := next) hI hl hb (fun p hp => (HQA.out p hp).below HBD.out) HDN.out HSV.out HSD.out (by have := HLL.out; omega) (by have := HG.out.2.2.2; omega))
   by_cases hokl : Zcx a b c next (L0.map QP.abs)
   ·have HOKL := Lib.hid hokl
    clear hokl
    go_upto_region 8 with fail
    go_region_held3 (fun w' => w'.cell? ⟨xb, 0, none⟩ = some (.int .i64 a) ∧ w'.cell? ⟨xb, 1, none⟩ = some (.int .i64 b) ∧ w'.cell? ⟨xb, 2, none⟩ = some (.int .i64 c) ∧ w'.cell? ⟨xb, 3, none⟩ = some (.slice la l0.length lc) ∧ w'.cell? ⟨xb, 4, none⟩ = some (.int .i64 next))
     (first | exact ⟨Zc hb7 i0, Zc hb7 i1, Zc hb7 i2, Zc hb7 i3, Zc hb7 i4⟩ | exact ⟨Zc hb6 i0, Zc hb6 i1, Zc hb6 i2, Zc hb6 i3, Zc hb6 i4⟩ | go_keep)
     (first
       | (go_at_call 23; refine HBACK.out.mono ?_; rintro e w6 ⟨v6, T6, rfl, hI6, hl6, hb6'⟩; (have hb6 := Zr hbd hb6'); (have HI6 := Lib.hid hI6); (have HL6 := Lib.hid hl6); (have HB6 := Lib.hid hb6'); clear hI6 hl6 hb6')
       | (go_at_call 22; refine (HLOAD.out w6 v6 T6 HI6.out HL6.out HB6.out).mono ?_; rintro e w7 ⟨hb7', hpost⟩; obtain ⟨P, mm, v7, ρ7, L7, hmm, rfl, hst7, hab7, hfar7⟩ := hpost.elim (fun h => h.2) (fun h => absurd HOKL.out h.1); (have hb7 := Zr hb6 hb7'); (have HST7 := Lib.hid hst7); (have HAB7 := Lib.hid hab7); (have HFAR7 := Lib.hid hfar7); (have HMM := Lib.hid hmm); clear hpost hst7 hab7 hfar7 hb7'))
    subst hmm
    have HBW7 := Lib.hid (HBW.out.trans (hb7.mono HBW.out.size))
    have HBW6 := Lib.hid (HBW.out.trans (hb6.mono HBW.out.size))
    have HX7 := Lib.hid ((hb7.block _ (Zb HXR.out)).trans HXR.out)
    clear HBACK HLOAD HI6 HB6 HXR HBW HBD hbd hb6 hb7 hx i0 i1 i2 i3 i4 HB HSM HMM HGK
    have i0 : w7.cell? ⟨xb, 0, none⟩ = some (.int .i64 a) := Za HX7.out rfl
    have i1 : w7.cell? ⟨xb, 1, none⟩ = some (.int .i64 mm) := Za HX7.out rfl
    have i2 : w7.cell? ⟨xb, 2, none⟩ = some (.int .i64 c) := Za HX7.out rfl
    have i3 : w7.cell? ⟨xb, 3, none⟩ = some (.slice la l0.length lc) := Za HX7.out rfl
    have i4 : w7.cell? ⟨xb, 4, none⟩ = some (.int .i64 next) := Za HX7.out rfl
    go_wp2_with fail
    refine (ZeK a mm c next (.slice la l0.length lc) L0 w7 (by have h := HSL.out.below HBW7.out; rw [HLL.out.1] at h ⊢; exact h) (fun p hp => (HQA.out p hp).below HBW7.out) HSQ.out (by have := HLL.out; omega) (by have := HG.out.2.2.2; omega)).mono ?_
    rintro e w8 ⟨⟨r, rfl, hr⟩, hb8⟩
    obtain rfl : r = true := hr.2 (ZiF.1 HOKL.out)
    have HB8 := Lib.hid hb8
    have HX8 := Lib.hid ((hb8.block _ (Zb HX7.out)).trans HX7.out)
    clear hr hb8 i0 i1 i2 i3 i4
    have i0 : w8.cell? ⟨xb, 0, none⟩ = some (.int .i64 a) := Za HX8.out rfl
    have i1 : w8.cell? ⟨xb, 1, none⟩ = some (.int .i64 mm) := Za HX8.out rfl
    have i2 : w8.cell? ⟨xb, 2, none⟩ = some (.int .i64 c) := Za HX8.out rfl
    have i3 : w8.cell? ⟨xb, 3, none⟩ = some (.slice la l0.length lc) := Za HX8.out rfl
    have i4 : w8.cell? ⟨xb, 4, none⟩ = some (.int .i64 next) := Za HX8.out rfl
    go_upto_region 14 with fail
    obtain ⟨w9, hw9⟩ : ∃ w9 : World, w9 = w8.alloc (.cells #[.int .i64 a, .int .i64 mm, .int .i64 c, .int .i64 next, .slice la l0.length lc] 45) := ⟨_, rfl⟩
    obtain ⟨bb, hbb⟩ : ∃ bb : Nat, bb = w8.heap.size := ⟨_, rfl⟩
    rw [← hw9, ← hbb]
    have HT9 := Lib.hid (show TwinV w6 P bb ⟨a, mm, c⟩ w9 from ⟨next, v7, L7, ρ7, .slice la l0.length lc, L0, Zld (w := W) (w6 := w6) rfl (HST7.out.on HB8.out) HAB7.out (fun j hj => HFAR7.out j (Nat.le_trans HB8.out.size hj)) HSL.out HQA.out (ZiF.1 HOKL.out) HSD.out HNM.out HNX.out (by have := HG.out.2.2.1; omega) (by have := HG.out.2.2.2; omega) HBW6.out hw9 hbb⟩)
    clear hw9 hbb i0 i1 i2 i3 i4
    go_wp2_with fail
    go_loopg [9] l.length (fun g i wz => ∃ k2 : Nat, g = l.length - k2 ∧ i = .int .i64 k2 ∧ k2 ≤ l.length ∧ TwinV w6 P bb ⟨a, mm, c⟩ wz)
    case atStart => exact ⟨0, rfl, rfl, Nat.zero_le _, HT9.out⟩
    case round =>
     obtain ⟨k2, hg, rfl, hk2, hT⟩ := hrel
     have HGK := Lib.hid hg
     have HT := Lib.hid hT
     have HBW := Lib.hid (show Below W.heap.size W wr by obtain ⟨_, _, _, _, _, _, h⟩ := hT; exact HBW6.out.trans (h.st.below.mono HBW6.out.size))
     clear hg hT
     by_cases hlt2 : k2 < l.length
     ·obtain ⟨y, hy⟩ : ∃ y, l[k2]? = some y := ⟨_, List.getElem?_eq_getElem hlt2⟩
      obtain ⟨g, off, cap', hv, hc⟩ := (HA.out.below HBW.out).at hy
      cases hv
      have HRA := Lib.hid hc
      have HCX := Lib.hid (show ∀ w', Below w6.heap.size w6 w' → ∀ j u, (encPa y)[j]? = some u → w'.cell? ⟨g, off + k2 * 10 + j, none⟩ = some u from fun w' hb j u hu => by
       obtain ⟨g', off', cap', hv', hc'⟩ := (HA.out.below (HBW6.out.trans (hb.mono HBW6.out.size))).at hy
       cases hv'
       exact hc' j u hu)
      have hkl : (k2 : Int) < (l.length : Int) := by omega
      clear hy hc
      go_wp2_with (refine wpList_load_mid rfl 27 _ rfl g (off + k2 * 10) rfl (encPa y) _ HRA.out Tryz.underlying27 rfl (Zod y) ?_)
      refine (ZkJ y wr).mono ?_
      rintro e w2' ⟨rfl, hb2'⟩
      have HT2 := Lib.hid (HT.out.on hb2')
      have HBV := Lib.hid (HBW.out.trans (hb2'.mono HBW.out.size))
      clear hb2'
      rcases hly : longB y with _ | _
      ·have HLG := Lib.hid (show y.plat.size ≤ 200 by
        unfold longB at hly
        simp only [Bool.or_eq_false_iff, decide_eq_false_iff_not] at hly
        omega)
       obtain ⟨nx3, v3, L3, ρ3, d3, l3, hB2⟩ := HT2.out
       have HBD := Lib.hid (show BothV w6 P bb ⟨a, mm, c⟩ nx3 v3 L3 ρ3 d3 l3 w2'.drew from hB2.on ⟨rfl, rfl, rfl, Nat.le_refl _, fun _ _ => rfl⟩)
       have HRD := Lib.hid (show Below W.heap.size W w2'.drew from HBV.out.trans ⟨rfl, rfl, rfl, Nat.le_refl _, fun _ _ => rfl⟩)
       have e0 : w2'.cell? ⟨bb, 0, none⟩ = some (.int .i64 a) := Za hB2.doc.head rfl
       have e1 : w2'.cell? ⟨bb, 1, none⟩ = some (.int .i64 mm) := Za hB2.doc.head rfl
       have e2 : w2'.cell? ⟨bb, 2, none⟩ = some (.int .i64 c) := Za hB2.doc.head rfl
       have e3 : w2'.cell? ⟨bb, 3, none⟩ = some (.int .i64 nx3) := Za hB2.doc.head rfl
       have e4 : w2'.cell? ⟨bb, 4, none⟩ = some (d3) := Za hB2.doc.head rfl
       clear hly hB2
       go_upto_region 19 with fail
       refine wp_region_noPanic ?_
       refine wp_region_any (by kernel_rfl) ?_
       change wpAny _ _ _ _ _ _ _ (World.drew _)
       refine wpAny_take (i := 0) (oi := ⟨some 140, _, _, _, _, _⟩) (v := ?_) rfl (by kernel_rfl) (by kernel_rfl) (by kernel_rfl) (fun _ _ _ h => h) (Or.inl ⟨by rfl, ?_⟩) ?_
       rotate_left 1
       ·intro w
        go_simp
        try with_reducible rfl
       try simp only [Act.put, List.setIfInBounds_toArray, List.set_cons_zero, List.set_cons_succ]
       refine wpAny_take (i := 1) (oi := ⟨some 141, _, _, _, _, _⟩) (v := ?_) rfl (by kernel_rfl) (by kernel_rfl) (by kernel_rfl) (fun _ _ _ h => h) (Or.inl ⟨by rfl, ?_⟩) ?_
       rotate_left 1
       ·intro w
        go_simp
        try with_reducible rfl
       try simp only [Act.put, List.setIfInBounds_toArray, List.set_cons_zero, List.set_cons_succ]
       refine wpAny_take (i := 2) (oi := ⟨some 142, _, _, _, _, _⟩) (v := ?_) rfl (by kernel_rfl) (by kernel_rfl) (by kernel_rfl) (fun _ _ _ h => h) (Or.inl ⟨by rfl, ?_⟩) ?_
       rotate_left 1
       ·intro w
        go_simp
        try with_reducible rfl
       try simp only [Act.put, List.setIfInBounds_toArray, List.set_cons_zero, List.set_cons_succ]
       refine wpAny_ready (rs := [3]) (by kernel_rfl) (by simp) ?_
       refine AllReady.cons (o := ⟨some 143, _, _, _, _, _⟩) rfl (fun K hK => ?_) AllReady.nil
       go_simp
       refine hK _ _ ?_
       clear hK K
       try simp only [Act.put, List.setIfInBounds_toArray, List.set_cons_zero, List.set_cons_succ]
       refine wpAny_ready (rs := [4]) (by kernel_rfl) (by simp) ?_
       refine AllReady.cons (o := ⟨some 144, _, _, _, _, _⟩) rfl (fun K hK => ?_) AllReady.nil
       go_simp
       refine (ZjK _ HBD.out).mono ?_
       rintro e w3 ⟨rfl, hb3⟩
       have HB3 := Lib.hid (HBD.out.on hb3)
       have HR3 := Lib.hid (HRD.out.trans (hb3.mono HRD.out.size))
       have x1 : w3.cell? ⟨g, off + k2 * 10 + 1, none⟩ = some (.string y.e.need) := HCX.out w3 HB3.out.st.below 1 _ rfl
       have x2 : w3.cell? ⟨g, off + k2 * 10 + 2, none⟩ = some (.int .i64 y.e.cls) := HCX.out w3 HB3.out.st.below 2 _ rfl
       have x3 : w3.cell? ⟨g, off + k2 * 10 + 3, none⟩ = some (.int .i64 y.e.ten) := HCX.out w3 HB3.out.st.below 3 _ rfl
       have x4 : w3.cell? ⟨g, off + k2 * 10 + 4, none⟩ = some (.int .i64 y.e.tw) := HCX.out w3 HB3.out.st.below 4 _ rfl
       have x5 : w3.cell? ⟨g, off + k2 * 10 + 5, none⟩ = some (.int .i64 y.e.inv) := HCX.out w3 HB3.out.st.below 5 _ rfl
       have x6 : w3.cell? ⟨g, off + k2 * 10 + 6, none⟩ = some (.int .i64 y.e.iw) := HCX.out w3 HB3.out.st.below 6 _ rfl
       have x7 : w3.cell? ⟨g, off + k2 * 10 + 7, none⟩ = some (.int .i64 y.e.id) := HCX.out w3 HB3.out.st.below 7 _ rfl
       have x8 : w3.cell? ⟨g, off + k2 * 10 + 8, none⟩ = some (.int .i64 y.e.cost) := HCX.out w3 HB3.out.st.below 8 _ rfl
       have x9 : w3.cell? ⟨g, off + k2 * 10 + 9, none⟩ = some (.string y.plat) := HCX.out w3 HB3.out.st.below 9 _ rfl
       clear hb3 e0 e1 e2 e3 e4
       refine hK _ _ ?_
       clear hK K
       try simp only [Act.put, List.setIfInBounds_toArray, List.set_cons_zero, List.set_cons_succ]
       refine wpAny_of_held (S := (fun w' => w'.cell? ⟨g, off + k2 * 10 + 1, none⟩ = some (.string y.e.need) ∧ w'.cell? ⟨g, off + k2 * 10 + 2, none⟩ = some (.int .i64 y.e.cls) ∧ w'.cell? ⟨g, off + k2 * 10 + 3, none⟩ = some (.int .i64 y.e.ten) ∧ w'.cell? ⟨g, off + k2 * 10 + 4, none⟩ = some (.int .i64 y.e.tw) ∧ w'.cell? ⟨g, off + k2 * 10 + 5, none⟩ = some (.int .i64 y.e.inv) ∧ w'.cell? ⟨g, off + k2 * 10 + 6, none⟩ = some (.int .i64 y.e.iw) ∧ w'.cell? ⟨g, off + k2 * 10 + 7, none⟩ = some (.int .i64 y.e.id) ∧ w'.cell? ⟨g, off + k2 * 10 + 8, none⟩ = some (.int .i64 y.e.cost) ∧ w'.cell? ⟨g, off + k2 * 10 + 9, none⟩ = some (.string y.plat))) _ _ _ _ ?_
       have hHeld : (fun w' => w'.cell? ⟨g, off + k2 * 10 + 1, none⟩ = some (.string y.e.need) ∧ w'.cell? ⟨g, off + k2 * 10 + 2, none⟩ = some (.int .i64 y.e.cls) ∧ w'.cell? ⟨g, off + k2 * 10 + 3, none⟩ = some (.int .i64 y.e.ten) ∧ w'.cell? ⟨g, off + k2 * 10 + 4, none⟩ = some (.int .i64 y.e.tw) ∧ w'.cell? ⟨g, off + k2 * 10 + 5, none⟩ = some (.int .i64 y.e.inv) ∧ w'.cell? ⟨g, off + k2 * 10 + 6, none⟩ = some (.int .i64 y.e.iw) ∧ w'.cell? ⟨g, off + k2 * 10 + 7, none⟩ = some (.int .i64 y.e.id) ∧ w'.cell? ⟨g, off + k2 * 10 + 8, none⟩ = some (.int .i64 y.e.cost) ∧ w'.cell? ⟨g, off + k2 * 10 + 9, none⟩ = some (.string y.plat)) w3 := ⟨x1, x2, x3, x4, x5, x6, x7, x8, x9⟩
       refine wpAnyH_take (i := 5) (oi := ⟨some 145, _, _, _, _, _⟩) (v := ?_) rfl (by kernel_rfl) (by kernel_rfl) (by kernel_rfl) (fun _ _ _ h => h) (Or.inl ⟨by rfl, ?_⟩) (by assumption) ?_
       rotate_left 1
       ·intro w hSw
        try dsimp only at hSw
        go_simp
        try with_reducible rfl
       try simp only [Act.put, List.setIfInBounds_toArray, List.set_cons_zero, List.set_cons_succ]
       refine wpAnyH_take (i := 6) (oi := ⟨some 146, _, _, _, _, _⟩) (v := ?_) rfl (by kernel_rfl) (by kernel_rfl) (by kernel_rfl) (fun _ _ _ h => h) (Or.inl ⟨by rfl, ?_⟩) (by assumption) ?_
       rotate_left 1
       ·intro w hSw
        try dsimp only at hSw
        go_simp
        try with_reducible rfl
       try simp only [Act.put, List.setIfInBounds_toArray, List.set_cons_zero, List.set_cons_succ]
       refine wpAnyH_take (i := 7) (oi := ⟨some 147, _, _, _, _, _⟩) (v := ?_) rfl (by kernel_rfl) (by kernel_rfl) (by kernel_rfl) (fun _ _ _ h => h) (Or.inl ⟨by rfl, ?_⟩) (by assumption) ?_
       rotate_left 1
       ·intro w hSw
        try dsimp only at hSw
        go_simp
        try with_reducible rfl
       try simp only [Act.put, List.setIfInBounds_toArray, List.set_cons_zero, List.set_cons_succ]
       refine wpAnyH_take (i := 8) (oi := ⟨some 148, _, _, _, _, _⟩) (v := ?_) rfl (by kernel_rfl) (by kernel_rfl) (by kernel_rfl) (fun _ _ _ h => h) (Or.inl ⟨by rfl, ?_⟩) (by assumption) ?_
       rotate_left 1
       ·intro w hSw
        try dsimp only at hSw
        go_simp
        try with_reducible rfl
       try simp only [Act.put, List.setIfInBounds_toArray, List.set_cons_zero, List.set_cons_succ]
       refine wpAnyH_take (i := 9) (oi := ⟨some 149, _, _, _, _, _⟩) (v := ?_) rfl (by kernel_rfl) (by kernel_rfl) (by kernel_rfl) (fun _ _ _ h => h) (Or.inl ⟨by rfl, ?_⟩) (by assumption) ?_
       rotate_left 1
       ·intro w hSw
        try dsimp only at hSw
        go_simp
        try with_reducible rfl
       try simp only [Act.put, List.setIfInBounds_toArray, List.set_cons_zero, List.set_cons_succ]
       refine wpAnyH_take (i := 10) (oi := ⟨some 150, _, _, _, _, _⟩) (v := ?_) rfl (by kernel_rfl) (by kernel_rfl) (by kernel_rfl) (fun _ _ _ h => h) (Or.inl ⟨by rfl, ?_⟩) (by assumption) ?_
       rotate_left 1
       ·intro w hSw
        try dsimp only at hSw
        go_simp
        try with_reducible rfl
       try simp only [Act.put, List.setIfInBounds_toArray, List.set_cons_zero, List.set_cons_succ]
       refine wpAnyH_take (i := 11) (oi := ⟨some 151, _, _, _, _, _⟩) (v := ?_) rfl (by kernel_rfl) (by kernel_rfl) (by kernel_rfl) (fun _ _ _ h => h) (Or.inl ⟨by rfl, ?_⟩) (by assumption) ?_
       rotate_left 1
       ·intro w hSw
        try dsimp only at hSw
        go_simp
        try with_reducible rfl
       try simp only [Act.put, List.setIfInBounds_toArray, List.set_cons_zero, List.set_cons_succ]
       refine wpAnyH_take (i := 12) (oi := ⟨some 152, _, _, _, _, _⟩) (v := ?_) rfl (by kernel_rfl) (by kernel_rfl) (by kernel_rfl) (fun _ _ _ h => h) (Or.inl ⟨by rfl, ?_⟩) (by assumption) ?_
       rotate_left 1
       ·intro w hSw
        try dsimp only at hSw
        go_simp
        try with_reducible rfl
       try simp only [Act.put, List.setIfInBounds_toArray, List.set_cons_zero, List.set_cons_succ]
       refine wpAnyH_take (i := 13) (oi := ⟨some 153, _, _, _, _, _⟩) (v := ?_) rfl (by kernel_rfl) (by kernel_rfl) (by kernel_rfl) (fun _ _ _ h => h) (Or.inl ⟨by rfl, ?_⟩) (by assumption) ?_
       rotate_left 1
       ·intro w hSw
        try dsimp only at hSw
        go_simp
        try with_reducible rfl
       try simp only [Act.put, List.setIfInBounds_toArray, List.set_cons_zero, List.set_cons_succ]
       refine wpAnyH_take (i := 14) (oi := ⟨some 154, _, _, _, _, _⟩) (v := ?_) rfl (by kernel_rfl) (by kernel_rfl) (by kernel_rfl) (fun _ _ _ h => h) (Or.inl ⟨by rfl, ?_⟩) (by assumption) ?_
       rotate_left 1
       ·intro w hSw
        try dsimp only at hSw
        go_simp
        try with_reducible rfl
       try simp only [Act.put, List.setIfInBounds_toArray, List.set_cons_zero, List.set_cons_succ]
       refine wpAnyH_take (i := 15) (oi := ⟨some 155, _, _, _, _, _⟩) (v := ?_) rfl (by kernel_rfl) (by kernel_rfl) (by kernel_rfl) (fun _ _ _ h => h) (Or.inl ⟨by rfl, ?_⟩) (by assumption) ?_
       rotate_left 1
       ·intro w hSw
        try dsimp only at hSw
        go_simp
        try with_reducible rfl
       try simp only [Act.put, List.setIfInBounds_toArray, List.set_cons_zero, List.set_cons_succ]
       refine wpAnyH_take (i := 16) (oi := ⟨some 156, _, _, _, _, _⟩) (v := ?_) rfl (by kernel_rfl) (by kernel_rfl) (by kernel_rfl) (fun _ _ _ h => h) (Or.inl ⟨by rfl, ?_⟩) (by assumption) ?_
       rotate_left 1
       ·intro w hSw
        try dsimp only at hSw
        go_simp
        try with_reducible rfl
       try simp only [Act.put, List.setIfInBounds_toArray, List.set_cons_zero, List.set_cons_succ]
       refine wpAnyH_take (i := 17) (oi := ⟨some 157, _, _, _, _, _⟩) (v := ?_) rfl (by kernel_rfl) (by kernel_rfl) (by kernel_rfl) (fun _ _ _ h => h) (Or.inl ⟨by rfl, ?_⟩) (by assumption) ?_
       rotate_left 1
       ·intro w hSw
        try dsimp only at hSw
        go_simp
        try with_reducible rfl
       try simp only [Act.put, List.setIfInBounds_toArray, List.set_cons_zero, List.set_cons_succ]
       refine wpAnyH_take (i := 18) (oi := ⟨some 158, _, _, _, _, _⟩) (v := ?_) rfl (by kernel_rfl) (by kernel_rfl) (by kernel_rfl) (fun _ _ _ h => h) (Or.inl ⟨by rfl, ?_⟩) (by assumption) ?_
       rotate_left 1
       ·intro w hSw
        try dsimp only at hSw
        go_simp
        try with_reducible rfl
       try simp only [Act.put, List.setIfInBounds_toArray, List.set_cons_zero, List.set_cons_succ]
       refine wpAnyH_take (i := 19) (oi := ⟨some 159, _, _, _, _, _⟩) (v := ?_) rfl (by kernel_rfl) (by kernel_rfl) (by kernel_rfl) (fun _ _ _ h => h) (Or.inl ⟨by rfl, ?_⟩) (by assumption) ?_
       rotate_left 1
       ·intro w hSw
        try dsimp only at hSw
        go_simp
        try with_reducible rfl
       try simp only [Act.put, List.setIfInBounds_toArray, List.set_cons_zero, List.set_cons_succ]
       refine wpAnyH_ready (rs := [20]) (by kernel_rfl) (by simp) ?_
       refine AllReadyH.cons (o := ⟨some 160, _, _, _, _, _⟩) rfl (fun K hK => ?_) AllReadyH.nil
       go_simp
       refine (Zir ⟨4, y.e, y.plat⟩ (show (4 : Int) ≠ 0 by decide) (show (4 : Int) ≠ 1 by decide) (show (4 : Int) ≠ 2 by decide) (show (4 : Int) ≠ 3 by decide) HLG.out (HR.out.below HR3.out) HB3.out).mono ?_
       rintro e w4 ⟨rfl, hT4⟩
       have HT4 := Lib.hid hT4
       have HB64 := Lib.hid (show Below w6.heap.size w6 w4 by obtain ⟨_, _, _, _, _, _, h⟩ := hT4; exact h.st.below)
       clear hT4
       refine hK.out _ _ ⟨HCX.out w4 HB64.out 1 _ rfl, HCX.out w4 HB64.out 2 _ rfl, HCX.out w4 HB64.out 3 _ rfl, HCX.out w4 HB64.out 4 _ rfl, HCX.out w4 HB64.out 5 _ rfl, HCX.out w4 HB64.out 6 _ rfl, HCX.out w4 HB64.out 7 _ rfl, HCX.out w4 HB64.out 8 _ rfl, HCX.out w4 HB64.out 9 _ rfl⟩ (fun hHeld => ?_)
       clear hK K
       try simp only [Act.put, List.setIfInBounds_toArray, List.set_cons_zero, List.set_cons_succ]
       refine wpAnyH_take (i := 21) (oi := ⟨some 161, _, _, _, _, _⟩) (v := ?_) rfl (by kernel_rfl) (by kernel_rfl) (by kernel_rfl) (fun _ _ _ h => h) (Or.inl ⟨by rfl, ?_⟩) (by assumption) ?_
       rotate_left 1
       ·intro w hSw
        try dsimp only at hSw
        go_simp
        try with_reducible rfl
       try simp only [Act.put, List.setIfInBounds_toArray, List.set_cons_zero, List.set_cons_succ]
       refine wpAnyH_take (i := 22) (oi := ⟨some 162, _, _, _, _, _⟩) (v := ?_) rfl (by kernel_rfl) (by kernel_rfl) (by kernel_rfl) (fun _ _ _ h => h) (Or.inl ⟨by rfl, ?_⟩) (by assumption) ?_
       rotate_left 1
       ·intro w hSw
        try dsimp only at hSw
        go_simp
        try with_reducible rfl
       try simp only [Act.put, List.setIfInBounds_toArray, List.set_cons_zero, List.set_cons_succ]
       refine wpAnyH_done (by kernel_rfl) ?_ _
       refine NoPanic.normal ?_
       clear hHeld x1 x2 x3 x4 x5 x6 x7 x8 x9
       go_wp2_with fail
       go_roundg (l.length - (k2 + 1))
       case rel => exact ⟨k2 + 1, rfl, by go_num, by omega, HT4.out⟩
       case measure => have := HGK.out; omega
      ·have HBV2 := HBV.out
       go_wp2_with fail
       refine (HLV.out _ HBV2).mono ?_
       rintro e w4 ⟨rfl, hb4⟩
       have HB4 := Lib.hid hb4
       clear hb4
       go_wp2_with fail
       go_ret
       exact ⟨rfl, HB4.out⟩
     ·have HBE := HBW.out
      go_wp2_with fail
      refine (HLV.out _ HBE).mono ?_
      rintro e w4 ⟨rfl, hb4⟩
      have HB4 := Lib.hid hb4
      clear hb4
      go_wp2_with fail
      go_ret
      exact ⟨rfl, HB4.out⟩
   ·have HOKL := Lib.hid hokl
    clear hokl
    go_upto_region 8 with fail
    go_region_held3 (fun w' => w'.cell? ⟨xb, 0, none⟩ = some (.int .i64 a) ∧ w'.cell? ⟨xb, 1, none⟩ = some (.int .i64 b) ∧ w'.cell? ⟨xb, 2, none⟩ = some (.int .i64 c) ∧ w'.cell? ⟨xb, 3, none⟩ = some (.slice la l0.length lc) ∧ w'.cell? ⟨xb, 4, none⟩ = some (.int .i64 next))
     (first | exact ⟨Zc hb7 i0, Zc hb7 i1, Zc hb7 i2, Zc hb7 i3, Zc hb7 i4⟩ | exact ⟨Zc hb6 i0, Zc hb6 i1, Zc hb6 i2, Zc hb6 i3, Zc hb6 i4⟩ | go_keep)
     (first
       | (go_at_call 23; refine HBACK.out.mono ?_; rintro e w6 ⟨v6, T6, rfl, hI6, hl6, hb6'⟩; (have hb6 := Zr hbd hb6'); (have HI6 := Lib.hid hI6); (have HL6 := Lib.hid hl6); (have HB6 := Lib.hid hb6'); clear hI6 hl6 hb6')
       | (go_at_call 22; refine (HLOAD.out w6 v6 T6 HI6.out HL6.out HB6.out).mono ?_; rintro e w7 ⟨hb7', hpost⟩; obtain rfl := hpost.elim (fun h => absurd h.1 HOKL.out) (fun h => h.2); (have hb7 := Zr hb6 hb7'); clear hpost hb7'))
    have HBW7 := Lib.hid (HBW.out.trans (hb7.mono HBW.out.size))
    have HX7 := Lib.hid ((hb7.block _ (Zb HXR.out)).trans HXR.out)
    clear HBACK HLOAD HI6 HB6 HXR HBW HBD hbd hb6 hb7 hx i0 i1 i2 i3 i4 HB HSM HGK
    have i0 : w7.cell? ⟨xb, 0, none⟩ = some (.int .i64 a) := Za HX7.out rfl
    have i1 : w7.cell? ⟨xb, 1, none⟩ = some (.int .i64 b) := Za HX7.out rfl
    have i2 : w7.cell? ⟨xb, 2, none⟩ = some (.int .i64 c) := Za HX7.out rfl
    have i3 : w7.cell? ⟨xb, 3, none⟩ = some (.slice la l0.length lc) := Za HX7.out rfl
    have i4 : w7.cell? ⟨xb, 4, none⟩ = some (.int .i64 next) := Za HX7.out rfl
    go_wp2_with fail
    refine (ZeK a b c next (.slice la l0.length lc) L0 w7 (by have h := HSL.out.below HBW7.out; rw [HLL.out.1] at h ⊢; exact h) (fun p hp => (HQA.out p hp).below HBW7.out) HSQ.out (by have := HLL.out; omega) (by have := HG.out.2.2.2; omega)).mono ?_
    rintro e w8 ⟨⟨r, rfl, hr⟩, hb8⟩
    obtain rfl : r = false := by
     cases r with
     | false => rfl
     | true => exact absurd (ZiF.2 (hr.1 rfl)) HOKL.out
    have HB8 := Lib.hid (HBW7.out.trans (hb8.mono HBW7.out.size))
    clear hr hb8 i0 i1 i2 i3 i4
    go_wp2_with fail
    refine (HLV.out _ HB8.out).mono ?_
    rintro e w5 ⟨rfl, hb5⟩
    have HB5 := Lib.hid hb5
    clear hb5
    go_wp2_with fail
    go_ret
    exact ⟨rfl, HB5.out⟩
end Go.Proofs.YtdbjihkgafhakaaGreatDoor
