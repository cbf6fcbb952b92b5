/-
 law17: loaded pools and the document's, side by side; Take by both: the walks.
 pool.Pools: Rows: the walk.
 law16: rows as the document has them, Same (cut out of Law16All, for the seats of the pools): the walks.
 law17: Same: the walk.
-/
import Derived.Test.YtdbjihkgafhakaaGreatDoorSl20
import Derived.Test.YtdbjihkgafhakaaGreatDoorSl13
import Derived.Test.YtdbjihkgafhakaaGreatDoorSl19
import Derived.Deep.Cut
import Derived.Deep.RegionLaw
import Derived.Test.YtdbjihkgafhakaaGreatDoorSl18
import Derived.Test.YtdbjihkgafhakaaGreatDoorSl10
import Derived.Deep.RegionHeld3
import Derived.Lib.QuietBelow
import Derived.BigQuiet
namespace Go.Proofs.YtdbjihkgafhakaaGreatDoor
open Go.RowKit
theorem i64_b {n : Int} (h : I64 n) : -9223372036854775808 ≤ n ∧ n ≤ 9223372036854775807 := by
 unfold I64 at h
 simp [Lit.wf, IntKind.min, IntKind.max, IntKind.signed, IntKind.bits] at h
 omega
structure Lv (x : PX) (next : Int) (L : List PN) : Prop where
 few : (L.length : Int) ≤ x.pools
 len : ∀ n ∈ L, n.cls.length = x.classes
 names : ∀ (i j : Nat) n m, L[i]? = some n → L[j]? = some m → n.name = m.name → i = j
 uses : ∀ n ∈ L, 1 ≤ n.uses
 tot : ∀ n ∈ L, ∀ c ∈ n.cls, totT c.rows ≤ 1000000
 nm : ∀ n ∈ L, n.name.size ≤ 200
 px : (1 ≤ x.pools ∧ x.pools ≤ 8) ∧ (1 ≤ x.classes ∧ x.classes ≤ 4) ∧ (1 ≤ x.q ∧ x.q ≤ 64)
 i64 : I64 next
theorem Lv.ok {x : PX} {next : Int} {L : List PN} (h : Lv x next L) : PoolOk x L := by
 have h1 := h.few
 have h2 := h.px
 exact ⟨by omega, by omega, fun n hn => by have := h.nm n hn; omega, h.tot⟩
theorem Lv.took {x : PX} {next n1 : Int} {L : List PN} {y : PB} {row : TRow} {rest : List TRow} (h : Lv x next L) (hn : L[y.i]? = some y.n) (_hc : y.n.cls[y.k]? = some y.c) (hi : I64 n1) (ht : totT (tookT row rest).2 ≤ 1000000) : Lv x n1 (L.set y.i (tookN y next row rest)) := by
 have hm := List.mem_of_getElem? hn
 have hnm : ∀ (i : Nat) n, (L.set y.i (tookN y next row rest))[i]? = some n → ∃ n0, L[i]? = some n0 ∧ n.name = n0.name := fun i n h1 => by
  by_cases e : y.i = i
  ·subst e
   rw [List.getElem?_set_self (List.getElem?_eq_some_iff.1 hn).1] at h1
   cases h1
   exact ⟨y.n, hn, rfl⟩
  ·rw [List.getElem?_set_ne e] at h1
   exact ⟨n, h1, rfl⟩
 refine ⟨by rw [List.length_set]; exact h.few, fun n hx => ?_, fun i j n m h1 h2 he => ?_, fun n hx => ?_, fun n hx d hd => ?_, fun n hx => ?_, h.px, hi⟩
 ·rcases Zao hx with h1 | rfl
  ·exact h.len n h1
  ·show (y.n.cls.set y.k _).length = _
   rw [List.length_set]
   exact h.len y.n hm
 ·obtain ⟨n0, g1, e1⟩ := hnm i n h1
  obtain ⟨m0, g2, e2⟩ := hnm j m h2
  exact h.names i j n0 m0 g1 g2 (by rw [← e1, ← e2, he])
 ·rcases Zao hx with h1 | rfl
  ·exact h.uses n h1
  ·exact h.uses y.n hm
 ·rcases Zao hx with h1 | rfl
  ·exact h.tot n h1 d hd
  ·rcases Zfs hd with h2 | rfl
   ·exact h.tot y.n hm d h2
   ·exact ht
 ·rcases Zao hx with h1 | rfl
  ·exact h.nm n h1
  ·exact h.nm y.n hm
structure BothV (W : World) (P b : Nat) (x : PX) (next : Int) (v : Value) (L : List PN) (ρ : Roles) (dv : Value) (l : List QP) (wr : World) : Prop where
 st : PlState W P x next v L ρ wr
 doc : RefP (FreeP ρ b) wr b x next dv l
 nb : ρ b = []
 wb : W.heap.size ≤ b
 abs : L.map PN.abs = l.map QP.abs
 lw : Lv x next L
section
variable {W wr w' : World} {P b k : Nat} {x : PX} {next nd next' : Int} {v v' dv dv' : Value} {L L' : List PN} {ρ : Roles} {l l' : List QP} {A' : List AR} {u : Value} {e : Ending}
theorem BothV.on (h : BothV W P b x next v L ρ dv l wr) (hb : Below wr.heap.size wr w') : BothV W P b x next v L ρ dv l w' := ⟨h.st.on hb, h.doc.below hb, h.nb, h.wb, h.abs, h.lw⟩
structure HalfV (W : World) (P b : Nat) (x : PX) (next nd : Int) (v : Value) (L : List PN) (ρ : Roles) (dv : Value) (l : List QP) (A : List AR) (wr : World) : Prop where
 st : PlState W P x next v L ρ wr
 doc : RefP (FreeP ρ b) wr b x nd dv l
 nb : ρ b = []
 wb : W.heap.size ≤ b
 abs : L.map PN.abs = A
 lw : Lv x next L
theorem BothV.first_prog (h : BothV W P b x next v L ρ dv l wr) (hT : ∃ v' L', Za2 ρ wr P x next' v' L' w' ∧ Lv x next' L' ∧ L'.map PN.abs = A') : ∃ v' L' ρ', HalfV W P b x next' next v' L' ρ' dv l A' w' ∧ KeptP ρ ρ' b wr w' := by
 obtain ⟨v', L', hT, hlw, hA⟩ := hT
 obtain ⟨ρ', h1, h2, h3, h4⟩ := Zhd h.st h.doc h.nb hT
 exact ⟨v', L', ρ', ⟨h1, h2, h3, h.wb, hA, hlw⟩, h4⟩
theorem HalfV.then_doc (h : HalfV W P b x next nd v L ρ dv l A' wr) (hD : ZdY (FreeP ρ b) b x next A' u wr e w') : e = .returned u ∧ (∃ dv' l', BothV W P b x next v L ρ dv' l' w') ∧ KeptP ρ ρ b wr w' := by
 obtain ⟨he, hF, dv', l', hR, hA⟩ := hD
 exact ⟨he, ⟨dv', l', Zl8 h.st hF h.nb h.wb, hR, h.nb, h.wb, by rw [h.abs, hA], h.lw⟩, Zhc hF⟩
end
def TwinV (W : World) (P b : Nat) (x : PX) (w : World) : Prop := ∃ next v L ρ dv l, BothV W P b x next v L ρ dv l w
def Zma (W : World) (P b : Nat) (x : PX) (e : Ending) (w' : World) : Prop := e = .returned (.bool true) ∧ TwinV W P b x w'
theorem TwinV.on {W : World} {P b : Nat} {x : PX} {w w' : World} (h : TwinV W P b x w) (hb : Below w.heap.size w w') : TwinV W P b x w' := by
 obtain ⟨next, v, L, ρ, dv, l, h⟩ := h
 exact ⟨next, v, L, ρ, dv, l, h.on hb⟩
def Zmb (pl : ByteArray) (most : Int) (x : PX) (L : List PN) (next : Int) (P : Nat) (ρ : Roles) (w : World) : Prop :=
 ∃ R : Value → Int → List AR → Prop, (∀ u u' n n' A A', R u n A → R u' n' A' → u = u' ∧ n = n' ∧ A = A') ∧ (∀ u n A, R u n A → ∃ (E : Ent) (ok : Bool), u = .tuple #[entV E, .bool ok]) ∧
  Calls Tryz.prog 14 #[.pointer (some ⟨P, 0, none⟩), .string pl, .int .i64 most] w (fun e w' => ∃ u next' A', R u next' A' ∧ e = .returned u ∧ ∃ v' L', Za2 ρ w P x next' v' L' w' ∧ Lv x next' L' ∧ L'.map PN.abs = A') ∧
  ∀ (G : Nat → Prop) (b : Nat) (dv : Value) (l : List QP) (w2 : World), RefP G w2 b x next dv l → L.map PN.abs = l.map QP.abs → Calls Tryz.prog 44 #[.pointer (some ⟨b, 0, none⟩), .string pl, .int .i64 most] w2 (fun e w' => ∃ u next' A', R u next' A' ∧ ZdY G b x next' A' u w2 e w')
theorem Zk1 (pl : ByteArray) (most : Int) {x : PX} {next : Int} {L : List PN} {P : Nat} {v : Value} {ρ : Roles} (w : World) (hpl : pl.size ≤ 200) (hr : Ready w) (hS : PoolAt ρ w P x next v L) (h : Lv x next L) : Zmb pl most x L next P ρ w := by
 have hO := h.ok
 have hnx := h.i64
 obtain ⟨n1, hn1⟩ : ∃ n1, n1 = wrap64 (next + 1) := ⟨_, rfl⟩
 have hw1 : wrap64 (next + 1) = n1 ∧ wrap64 (n1 - 1) = next := ⟨hn1.symm, by have := i64_b hnx; rw [hn1]; unfold wrap64; omega⟩
 have hi1 : I64 n1 := by rw [hn1]; exact WalkArith.wf_i64 (by unfold wrap64; omega)
 have hpx := h.px
 have hdoc : ∀ {G : Nat → Prop} {b : Nat} {dv : Value} {l : List QP} {w2 : World}, RefP G w2 b x next dv l → L.map PN.abs = l.map QP.abs → ∀ o, ZJ most pl L L.length = o → Calls Tryz.prog 44 #[.pointer (some ⟨b, 0, none⟩), .string pl, .int .i64 most] w2 (Zgo n1 G b x next l o w2) := fun {G b dv l w2} hR hA o ho => by
  refine Znt n1 o pl most b x next dv l L w2 hR hA ho hO (by omega) (by omega) (fun p hp => ?_) hw1.1 hpx.2.2 (fun p hp y hy => ?_) (fun p hp y hy => ?_)
  ·obtain ⟨i, n, hn, hap⟩ := ZfI hA hp
   have h1 := h.uses n (List.mem_of_getElem? hn)
   have h2 : n.uses = p.uses := congrArg AR.uses hap
   omega
  ·obtain ⟨i, n, hn, hap⟩ := ZfI hA hp
   obtain ⟨j, c, hc, _, hrows⟩ := Zip hap hy
   refine Zns ((hR.inv p hp).inv y hy) ?_
   rw [← hrows]
   exact Zdu ((hS.need i n hn).cls j c hc).share.fullT (by have := h.tot n (List.mem_of_getElem? hn) c (List.mem_of_getElem? hc); omega)
  ·obtain ⟨i, n, hn, hap⟩ := ZfI hA hp
   obtain ⟨j, c, hc, hgv, hrows⟩ := Zip hap hy
   have hs := ((hS.need i n hn).cls j c hc).share
   rw [← hrows, ← hgv]
   exact ⟨hs.rowsOk, Ziq hs⟩
 rcases hb : ZJ most pl L L.length with _ | y
 ·refine ⟨fun u n A => u = .tuple #[entV ent0, .bool false] ∧ n = next ∧ A = L.map PN.abs, fun u u' n n' A A' ⟨h1, h2, h3⟩ ⟨g1, g2, g3⟩ => ⟨h1.trans g1.symm, h2.trans g2.symm, h3.trans g3.symm⟩, (fun u n A ⟨h1, _⟩ => ⟨ent0, false, h1⟩), (ZkD w hr hS hO (by omega) hb).mono ?_, fun G b dv l w2 hR hA => (hdoc hR hA none hb).mono ?_⟩
  ·rintro e w' ⟨rfl, hb'⟩
   exact ⟨_, _, _, ⟨rfl, rfl, rfl⟩, rfl, _, _, ZlS hS hb', h, rfl⟩
  ·rintro e w' ⟨rfl, hb'⟩
   exact ⟨_, _, _, ⟨rfl, rfl, rfl⟩, by rw [hA]; exact Zno hR hb' _⟩
 ·refine ⟨fun u n A => ∃ row rest, PicksT x.q y.c.gv y.c.rows (row :: rest) ∧ u = takeU y row ∧ n = n1 ∧ A = (L.map PN.abs).set y.i { y.n.abs with served := (y.n.cls.map PC.served).set y.k next, sh := (y.n.cls.map (fun c => (c.gv, c.rows))).set y.k ((tookT row rest).1, (tookT row rest).2) }, ?_, (fun u n A ⟨row, rest, _, h1, _⟩ => ⟨_, true, h1⟩), (ZjH n1 y w hr hS hO (by omega) hb hw1).mono ?_, fun G b dv l w2 hR hA => (hdoc hR hA (some y) hb).mono ?_⟩
  ·rintro u u' n n' A A' ⟨row, rest, h1, rfl, rfl, rfl⟩ ⟨row', rest', g1, rfl, rfl, rfl⟩
   have e := h1.once g1
   cases e
   exact ⟨rfl, rfl, rfl⟩
  ·rintro e w' ⟨row, rest, ρ', rfl, hpk, hl, hN, hA, hF⟩
   obtain ⟨hn, hc⟩ := ZbF L.length y hb
   have ht := h.tot y.n (List.mem_of_getElem? hn) y.c (List.mem_of_getElem? hc)
   have h1 := Zc7 row rest
   have h2 := ZcG hpk
   refine ⟨_, _, _, ⟨row, rest, hpk, rfl, rfl, rfl⟩, rfl, _, _, ⟨ρ', hl, hN, hA, hF⟩, h.took hn hc hi1 (by omega), Znr L y next row rest⟩
  ·rintro e w' ⟨row, rest, rfl, hpk, hF, v', l', hR', hm⟩
   exact ⟨_, _, _, ⟨row, rest, hpk, rfl, rfl, rfl⟩, rfl, hF, v', l', hR', by rw [hm, hA]⟩
theorem HalfV.on {W wr w' : World} {P b : Nat} {x : PX} {next nd : Int} {v dv : Value} {L : List PN} {ρ : Roles} {l : List QP} {A : List AR} (h : HalfV W P b x next nd v L ρ dv l A wr) (hb : Below wr.heap.size wr w') : HalfV W P b x next nd v L ρ dv l A w' := ⟨h.st.on hb, h.doc.below hb, h.nb, h.wb, h.abs, h.lw⟩
section
variable {W wr : World} {P b : Nat} {x : PX} {next : Int} {v dv : Value} {L : List PN} {ρ : Roles} {l : List QP}
set_option maxRecDepth 100000 in
set_option maxHeartbeats 8000000 in
theorem Zir (y : Pa) (h0 : y.kind ≠ 0) (h1 : y.kind ≠ 1) (h2 : y.kind ≠ 2) (h3 : y.kind ≠ 3) (hpl : y.plat.size ≤ 200) (hr : Ready wr) (h : BothV W P b x next v L ρ dv l wr) :
 Calls Tryz.prog 16 #[.pointer (some ⟨P, 0, none⟩), .pointer (some ⟨b, 0, none⟩), .agg (paC y)] wr (Zma W P b x) := by
 have hkb0 : (y.kind == 0) = false := beq_eq_false_iff_ne.2 h0
 have hkb1 : (y.kind == 1) = false := beq_eq_false_iff_ne.2 h1
 have hkb2 : (y.kind == 2) = false := beq_eq_false_iff_ne.2 h2
 have hkb3 : (y.kind == 3) = false := beq_eq_false_iff_ne.2 h3
 have HR := Lib.hid (hr.below (box_below (o := .cells (paC y) 27)))
 have H := Lib.hid h
 have HK := Lib.hid hpl
 clear h h0 h1 h2 h3 hpl hr
 unfold paC at HR ⊢
 go_enter Tryz.func16, Tryz.ntmps16
 go_upto_region 1 with fail
 obtain ⟨w1, hw1⟩ : ∃ w1 : World, w1 = wr.alloc (.cells #[.int .i64 y.kind, .string y.e.need, .int .i64 y.e.cls, .int .i64 y.e.ten, .int .i64 y.e.tw, .int .i64 y.e.inv, .int .i64 y.e.iw, .int .i64 y.e.id, .int .i64 y.e.cost, .string y.plat] 27) := ⟨_, rfl⟩
 obtain ⟨bx, hbx⟩ : ∃ bx : Nat, bx = wr.heap.size := ⟨_, rfl⟩
 rw [← hw1] at HR
 rw [← hw1, ← hbx]
 have hx1 : w1.heap[bx]? = some (.cells (paC y) 27 (0, 0)) := by rw [hw1, hbx]; exact Zf
 have HXF := Lib.hid (show FreeP ρ b bx by rw [hbx]; exact H.out.doc.up _ (Nat.le_refl _))
 have HX1 := Lib.hid hx1
 have HB1 := Lib.hid (show BothV W P b x next v L ρ dv l w1 by rw [hw1]; exact H.out.on box_below)
 have c0 : w1.cell? ⟨bx, 0, none⟩ = some (.int .i64 y.kind) := Za hx1 rfl
 have c2 : w1.cell? ⟨bx, 2, none⟩ = some (.int .i64 y.e.cls) := Za hx1 rfl
 have c9 : w1.cell? ⟨bx, 9, none⟩ = some (.string y.plat) := Za hx1 rfl
 clear hw1 hbx hx1
 obtain ⟨R, hdet, hform, hprog, hdoc⟩ := Zk1 y.plat y.e.cls w1 HK.out HR.out HB1.out.st.pool HB1.out.lw
 have HDET := Lib.hid hdet
 have HFORM := Lib.hid hform
 have HPROG := Lib.hid hprog
 have HDOC := Lib.hid hdoc
 clear hdet hform hprog hdoc
 go_upto_region 10 with fail
 clear c0
 go_wp2_with fail
 refine HPROG.out.mono ?_
 rintro e w3 ⟨u, n3, A3, hR3, rfl, v3, L3, hT3, hlw3, hA3⟩
 obtain ⟨E, ok, rfl⟩ := HFORM.out _ _ _ hR3
 obtain ⟨v3, L3, ρ3, hh3, hk3⟩ := HB1.out.first_prog ⟨v3, L3, hT3, hlw3, hA3⟩
 have HR3 := Lib.hid hR3
 have HH3 := Lib.hid hh3
 have hx3 := (hk3 _ _ HX1.out HXF.out).1
 have HXF3 := Lib.hid (hk3 _ _ HX1.out HXF.out).2
 have HX3 := Lib.hid hx3
 clear hR3 hh3 hk3 hT3 hlw3 hA3 c2 c9 hx3
 unfold entV entC
 go_upto_region 11 with fail
 obtain ⟨w4, hw4⟩ : ∃ w4 : World, w4 = w3.alloc (.cells #[.string E.need, .int .i64 E.cls, .int .i64 E.ten, .int .i64 E.tw, .int .i64 E.inv, .int .i64 E.iw, .int .i64 E.id, .int .i64 E.cost] 25) := ⟨_, rfl⟩
 obtain ⟨b1, hb1⟩ : ∃ b1 : Nat, b1 = w3.heap.size := ⟨_, rfl⟩
 rw [← hw4, ← hb1]
 have HH4 := Lib.hid (show HalfV W P b x n3 next v3 L3 ρ3 dv l A3 w4 by rw [hw4]; exact HH3.out.on box_below)
 have HK4 := Lib.hid (show w4.heap[b1]? = some (Zgp E) by rw [hw4, hb1]; exact Zf)
 have HF1 := Lib.hid (show FreeP ρ3 b b1 by rw [hb1]; exact HH3.out.doc.up _ (Nat.le_refl _))
 have hx4 : w4.heap[bx]? = some (.cells (paC y) 27 (0, 0)) := by rw [hw4]; exact Zi HX3.out
 have c2 : w4.cell? ⟨bx, 2, none⟩ = some (.int .i64 y.e.cls) := Za hx4 rfl
 have c9 : w4.cell? ⟨bx, 9, none⟩ = some (.string y.plat) := Za hx4 rfl
 clear hw4 hb1 hx4
 go_wp2_with fail
 refine (HDOC.out _ b dv l _ HH4.out.doc HB1.out.abs).mono ?_
 rintro e w5 ⟨u5, n5, A5, hR5, hd5⟩
 obtain ⟨rfl, rfl, rfl⟩ := HDET.out _ _ _ _ _ _ HR3.out hR5
 obtain ⟨rfl, ⟨dv5, l5, hb5⟩, hk5⟩ := HH4.out.then_doc hd5
 have HB5 := Lib.hid hb5
 have HK5 := Lib.hid (hk5 _ _ HK4.out HF1.out).1
 clear hR5 hd5 hb5 hk5 c2 c9
 unfold entV entC
 go_upto_region 12 with fail
 obtain ⟨w6, hw6⟩ : ∃ w6 : World, w6 = w5.alloc (.cells #[.string E.need, .int .i64 E.cls, .int .i64 E.ten, .int .i64 E.tw, .int .i64 E.inv, .int .i64 E.iw, .int .i64 E.id, .int .i64 E.cost] 25) := ⟨_, rfl⟩
 obtain ⟨b2, hb2⟩ : ∃ b2 : Nat, b2 = w5.heap.size := ⟨_, rfl⟩
 rw [← hw6, ← hb2]
 have HB6 := Lib.hid (show TwinV W P b x w6 by rw [hw6]; exact ⟨_, _, _, _, _, _, HB5.out.on box_below⟩)
 obtain ⟨a0, a1, a2, a3, a4, a5, a6, a7⟩ := Zfy (show w6.heap[b1]? = some (Zgp E) by rw [hw6]; exact Zi HK5.out)
 obtain ⟨d0, d1, d2, d3, d4, d5, d6, d7⟩ := Zfy (show w6.heap[b2]? = some (Zgp E) by rw [hw6, hb2]; exact Zf)
 clear hw6 hb2
 go_wp2_with (refine ZgB (p := E) rfl _ _ rfl rfl rfl ?_)
 go_ret
 exact ⟨Zo (by simp), HB6.out⟩
end
open Go.Sort
structure PR where
 name : ByteArray
 uses : Int
 sv : Value
 hv : Value
 gv : Value
def encPR (r : PR) : List Value := [.string r.name, .int .i64 r.uses, r.sv, r.hv, r.gv]
theorem Zmc (r : PR) : (encPR r).length = 5 := rfl
def Zcw (sl : List Value) (cs : List PC) : Prop := ∀ (k : Nat) c, cs[k]? = some c → ∃ a cap, sl[k]? = some (.slice a c.rows.length cap)
structure PRAt (w : World) (n : PN) (r : PR) : Prop where
 name : r.name = n.name
 uses : r.uses = n.uses
 sv : SlAt w r.sv n.cls.length ((n.cls.map PC.served).flatMap encZ)
 hv : ∃ sl, SlAt w r.hv n.cls.length sl ∧ Zcw sl n.cls
 gv : SlAt w r.gv n.cls.length (n.cls.map (fun c => Value.bool c.gv))
theorem PRAt.below {w w' : World} {n : PN} {r : PR} (h : PRAt w n r) (hb : Below w.heap.size w w') : PRAt w' n r :=
 ⟨h.name, h.uses, h.sv.below hb, (by obtain ⟨sl, h1, h2⟩ := h.hv; exact ⟨sl, h1.below hb, h2⟩), h.gv.below hb⟩
theorem Zj7 : (Tryz.prog.info? 95).map (fun i => (i.zero, i.size, i.bytes)) = some (some (.agg #[.string ⟨#[]⟩, .int .i64 0, .slice none 0 0, .slice none 0 0, .slice none 0 0]), 5, 96) := by kernel_rfl
theorem Zis : (Tryz.prog.info? 101).map (fun i => (i.zero, i.size, i.bytes)) = some (some (.slice none 0 0), 1, 24) := by kernel_rfl
theorem Zfz : (Tryz.prog.info? 4).map (fun i => (i.zero, i.size, i.bytes)) = some (some (.bool false), 1, 1) := by kernel_rfl
theorem pr_sz (r : PR) : (Tryz.prog.info? 95).map (·.size) = some (encPR r).length := by
 rw [show (encPR r).length = 5 from rfl]
 kernel_rfl
theorem Zmd {sl : List Value} {cs : List PC} {k : Nat} {c : PC} {a : Option Addr} {cap : Nat} (h : Zcw sl (cs.take k)) (hl : sl.length = k) (hc : cs[k]? = some c) : Zcw (sl ++ [.slice a c.rows.length cap]) (cs.take (k + 1)) := by
 intro j d hd
 rw [List.take_add_one, hc] at hd
 have hk : (cs.take k).length = k := by rw [List.length_take]; have := (List.getElem?_eq_some_iff.1 hc).1; omega
 rcases Nat.lt_or_ge j k with hj | hj
 ·rw [List.getElem?_append_left (by omega)] at hd
  rw [List.getElem?_append_left (by omega)]
  exact h j d hd
 ·have hj0 : j = k := by
   have := (List.getElem?_eq_some_iff.1 hd).1
   simp [hk] at this
   omega
  subst hj0
  rw [List.getElem?_append_right (by omega), hk] at hd
  simp at hd
  subst hd
  rw [List.getElem?_append_right (by omega), hl]
  exact ⟨a, cap, by simp⟩
structure RSt (w0 : World) (xb : Nat) (n : PN) (i j m : Nat) (wr : World) : Prop where
 cells : ∃ sv hv gv sl, wr.heap[xb]? = some (.cells (encPR ⟨n.name, n.uses, sv, hv, gv⟩).toArray 95 (0, 0)) ∧ wr.ownsRow (xb + 1) 3 1 sv i (((n.cls.take i).map PC.served).flatMap encZ) ∧ wr.ownsRow (xb + 1) 101 1 hv j sl ∧ Zcw sl (n.cls.take j) ∧ wr.ownsRow (xb + 1) 4 1 gv m ((n.cls.take m).map (fun c => Value.bool c.gv))
 below : Below w0.heap.size w0 wr
 lo : w0.heap.size ≤ xb
section
variable {w0 wr w9 : World} {xb i j m : Nat} {n : PN} {c : PC} {sv hv gv v9 : Value} {sl : List Value} {o : Obj}
theorem RSt.on (h : RSt w0 xb n i j m wr) (hb : Below wr.heap.size wr w9) : RSt w0 xb n i j m w9 := by
 obtain ⟨⟨sv, hv, gv, sl, h1, h2, h3, h4, h5⟩, hB, hlo⟩ := h
 exact ⟨⟨sv, hv, gv, sl, (hb.block _ (Zb h1)).trans h1, Zk h2 hb, Zk h3 hb, h4, Zk h5 hb⟩, hB.trans (hb.mono hB.size), hlo⟩
theorem ZeH (h : RSt w0 xb n i j m wr) {u : Value} (hown : ∀ k, u.ownBlock = some k → xb + 1 ≤ k) (hg : (wr.alloc o).grownBy w9 u.ownBlock) (q : Nat) : Below w0.heap.size w0 (w9.setCell ⟨xb, q, none⟩ v9) := by
 have hlo := h.lo
 have hF : Fp (fun k => w0.heap.size ≤ k) wr (w9.setCell ⟨xb, q, none⟩ v9) := (((Fp.refl _ wr).alloc o).grown hg (fun k _ e => by have := hown k e; omega)).setCell (fun _ => hlo) _
 exact h.below.trans (hF.below h.below.size (fun k hk e => by omega))
theorem RSt.served (h : RSt w0 xb n i j m wr) (hc : n.cls[i]? = some c) (hx : wr.heap[xb]? = some (.cells (encPR ⟨n.name, n.uses, sv, hv, gv⟩).toArray 95 (0, 0))) (h2 : wr.ownsRow (xb + 1) 3 1 sv i (((n.cls.take i).map PC.served).flatMap encZ)) (h3 : wr.ownsRow (xb + 1) 101 1 hv j sl) (h4 : Zcw sl (n.cls.take j)) (h5 : wr.ownsRow (xb + 1) 4 1 gv m ((n.cls.take m).map (fun c => Value.bool c.gv)))
 (ho9 : w9.ownsRow (xb + 1) 3 1 v9 (i + 1) (((n.cls.take i).map PC.served).flatMap encZ ++ encZ c.served)) (hg : (wr.alloc o).grownBy w9 sv.ownBlock) : RSt w0 xb n (i + 1) j m (w9.setCell ⟨xb, 2, none⟩ v9) := by
 have hxl := Zb hx
 have hown : ∀ k, sv.ownBlock = some k → xb + 1 ≤ k := Zl h2
 have hx9 : w9.heap[xb]? = some (.cells (encPR ⟨n.name, n.uses, sv, hv, gv⟩).toArray 95 (0, 0)) := (hg.block xb (by simp; omega) (fun e => by have := hown xb e.symm; omega)).trans (Zi hx)
 refine ⟨⟨v9, hv, gv, sl, Ze hx9, ?_, ?_, h4, ?_⟩, ZeH h hown hg 2, h.lo⟩
 ·rw [List.take_add_one, hc, List.map_append, List.flatMap_append]
  have := RowKit.ownsRow_setCell_below ho9 (a := ⟨xb, 2, none⟩) (by simp) v9
  simpa using this
 ·exact RowKit.ownsRow_setCell_below (ZT (h3.alloc o) hg (ZG h3 h2 (by decide))) (by simp) _
 ·exact RowKit.ownsRow_setCell_below (ZT (h5.alloc o) hg (ZG h5 h2 (by decide))) (by simp) _
theorem RSt.shares (h : RSt w0 xb n i j m wr) (hc : n.cls[j]? = some c) (hx : wr.heap[xb]? = some (.cells (encPR ⟨n.name, n.uses, sv, hv, gv⟩).toArray 95 (0, 0))) (h2 : wr.ownsRow (xb + 1) 3 1 sv i (((n.cls.take i).map PC.served).flatMap encZ)) (h3 : wr.ownsRow (xb + 1) 101 1 hv j sl) (h4 : Zcw sl (n.cls.take j)) (h5 : wr.ownsRow (xb + 1) 4 1 gv m ((n.cls.take m).map (fun c => Value.bool c.gv)))
 {a : Option Addr} {cap : Nat} (ho9 : w9.ownsRow (xb + 1) 101 1 v9 (j + 1) (sl ++ [.slice a c.rows.length cap])) (hg : (wr.alloc o).grownBy w9 hv.ownBlock) : RSt w0 xb n i (j + 1) m (w9.setCell ⟨xb, 3, none⟩ v9) := by
 have hxl := Zb hx
 have hown : ∀ k, hv.ownBlock = some k → xb + 1 ≤ k := Zl h3
 have hx9 : w9.heap[xb]? = some (.cells (encPR ⟨n.name, n.uses, sv, hv, gv⟩).toArray 95 (0, 0)) := (hg.block xb (by simp; omega) (fun e => by have := hown xb e.symm; omega)).trans (Zi hx)
 have hl : sl.length = j := by have := h3.1; simpa using this
 refine ⟨⟨sv, v9, gv, _, Ze hx9, ?_, RowKit.ownsRow_setCell_below ho9 (by simp) _, Zmd h4 hl hc, ?_⟩, ZeH h hown hg 3, h.lo⟩
 ·exact RowKit.ownsRow_setCell_below (ZT (h2.alloc o) hg (ZG h2 h3 (by decide))) (by simp) _
 ·exact RowKit.ownsRow_setCell_below (ZT (h5.alloc o) hg (ZG h5 h3 (by decide))) (by simp) _
theorem RSt.given (h : RSt w0 xb n i j m wr) (hc : n.cls[m]? = some c) (hx : wr.heap[xb]? = some (.cells (encPR ⟨n.name, n.uses, sv, hv, gv⟩).toArray 95 (0, 0))) (h2 : wr.ownsRow (xb + 1) 3 1 sv i (((n.cls.take i).map PC.served).flatMap encZ)) (h3 : wr.ownsRow (xb + 1) 101 1 hv j sl) (h4 : Zcw sl (n.cls.take j)) (h5 : wr.ownsRow (xb + 1) 4 1 gv m ((n.cls.take m).map (fun c => Value.bool c.gv)))
 (ho9 : w9.ownsRow (xb + 1) 4 1 v9 (m + 1) ((n.cls.take m).map (fun c => Value.bool c.gv) ++ [.bool c.gv])) (hg : (wr.alloc o).grownBy w9 gv.ownBlock) : RSt w0 xb n i j (m + 1) (w9.setCell ⟨xb, 4, none⟩ v9) := by
 have hxl := Zb hx
 have hown : ∀ k, gv.ownBlock = some k → xb + 1 ≤ k := Zl h5
 have hx9 : w9.heap[xb]? = some (.cells (encPR ⟨n.name, n.uses, sv, hv, gv⟩).toArray 95 (0, 0)) := (hg.block xb (by simp; omega) (fun e => by have := hown xb e.symm; omega)).trans (Zi hx)
 refine ⟨⟨sv, hv, v9, sl, Ze hx9, ?_, ?_, h4, ?_⟩, ZeH h hown hg 4, h.lo⟩
 ·exact RowKit.ownsRow_setCell_below (ZT (h2.alloc o) hg (ZG h2 h5 (by decide))) (by simp) _
 ·exact RowKit.ownsRow_setCell_below (ZT (h3.alloc o) hg (ZG h3 h5 (by decide))) (by simp) _
 ·rw [List.take_add_one, hc, List.map_append]
  have := RowKit.ownsRow_setCell_below ho9 (a := ⟨xb, 4, none⟩) (by simp) v9
  simpa using this
end
structure PRIn (base : Nat) (w : World) (n : PN) (r : PR) : Prop where
 name : r.name = n.name
 uses : r.uses = n.uses
 sv : w.ownsRow base 3 1 r.sv n.cls.length ((n.cls.map PC.served).flatMap encZ)
 hv : ∃ sl, w.ownsRow base 101 1 r.hv n.cls.length sl ∧ Zcw sl n.cls
 gv : w.ownsRow base 4 1 r.gv n.cls.length (n.cls.map (fun c => Value.bool c.gv))
theorem PRIn.at {base : Nat} {w : World} {n : PN} {r : PR} (h : PRIn base w n r) : PRAt w n r := by
 obtain ⟨h1, h2, h3, ⟨sl, h4, h5⟩, h6⟩ := h
 exact ⟨h1, h2, Zbj h3, ⟨sl, Zbj h4, h5⟩, Zbj h6⟩
theorem PRIn.below {base : Nat} {w w' : World} {n : PN} {r : PR} (h : PRIn base w n r) (hb : Below w.heap.size w w') : PRIn base w' n r := by
 obtain ⟨h1, h2, h3, ⟨sl, h4, h5⟩, h6⟩ := h
 exact ⟨h1, h2, Zk h3 hb, ⟨sl, Zk h4 hb, h5⟩, Zk h6 hb⟩
theorem PRIn.base {b base : Nat} {w : World} {n : PN} {r : PR} (h : PRIn base w n r) (hb : b ≤ base) : PRIn b w n r := by
 obtain ⟨h1, h2, h3, ⟨sl, h4, h5⟩, h6⟩ := h
 exact ⟨h1, h2, Zap h3 hb, ⟨sl, Zap h4 hb, h5⟩, Zap h6 hb⟩
theorem PRIn.grown {b base k : Nat} {w w9 : World} {n : PN} {r : PR} {ov : Value} {xs : List Value} (h : PRIn base w n r) (ho : w.ownsRow b 95 5 ov k xs) (hg : w.grownBy w9 ov.ownBlock) : PRIn base w9 n r := by
 obtain ⟨h1, h2, h3, ⟨sl, h4, h5⟩, h6⟩ := h
 exact ⟨h1, h2, ZT h3 hg (ZG h3 ho (by decide)), ⟨sl, ZT h4 hg (ZG h4 ho (by decide)), h5⟩, ZT h6 hg (ZG h6 ho (by decide))⟩
section
variable {w0 wr : World} {xb : Nat} {n : PN}
theorem RSt.row (h : RSt w0 xb n n.cls.length n.cls.length n.cls.length wr) : ∃ r, wr.heap[xb]? = some (.cells (encPR r).toArray 95 (0, 0)) ∧ PRIn (xb + 1) wr n r := by
 obtain ⟨⟨sv, hv, gv, sl, h1, h2, h3, h4, h5⟩, -, -⟩ := h
 rw [List.take_length] at h2 h4 h5
 exact ⟨_, h1, rfl, rfl, h2, ⟨sl, h3, h4⟩, h5⟩
end
structure RIn (w wr : World) (ov : Value) (L : List PN) (D : List PR) : Prop where
 own : wr.ownsRow w.heap.size 95 5 ov D.length (D.flatMap encPR)
 row : ∀ (i : Nat) r n, D[i]? = some r → L[i]? = some n → PRIn w.heap.size wr n r
theorem RIn.below {w wr w' : World} {ov : Value} {L : List PN} {D : List PR} (h : RIn w wr ov L D) (hb : Below wr.heap.size wr w') : RIn w w' ov L D := ⟨Zk h.own hb, fun i r n h1 h2 => (h.row i r n h1 h2).below hb⟩
theorem RIn.snoc {w wr w9 : World} {ov v9 : Value} {L : List PN} {D : List PR} {n : PN} {r : PR} (h : RIn w wr ov L D) (hn : L[D.length]? = some n) (hr : PRIn w.heap.size wr n r) (ho : w9.ownsRow w.heap.size 95 5 v9 (D.length + 1) (D.flatMap encPR ++ encPR r)) (hg : wr.grownBy w9 ov.ownBlock) : RIn w w9 v9 L (D ++ [r]) := by
 refine ⟨by rw [List.length_append, List.flatMap_append]; simpa using ho, fun i r' n' h1 h2 => ?_⟩
 rcases Nat.lt_or_ge i D.length with hi | hi
 ·rw [List.getElem?_append_left hi] at h1
  exact (h.row i r' n' h1 h2).grown h.own hg
 ·have hi0 : i = D.length := by
   have := (List.getElem?_eq_some_iff.1 h1).1
   simp at this
   omega
  subst hi0
  rw [List.getElem?_append_right (Nat.le_refl _)] at h1
  simp at h1
  subst h1
  obtain rfl : n = n' := Option.some.inj (hn.symm.trans h2)
  exact hr.grown h.own hg
section
variable {ρ : Roles} {P : Nat} {x : PX} {next : Int} {v : Value} {L : List PN}
set_option maxRecDepth 100000 in
set_option maxHeartbeats 8000000 in
theorem Zme (w : World) (hS : PoolAt ρ w P x next v L) (hO : PoolOk x L) :
 Calls Tryz.prog 45 #[.pointer (some ⟨P, 0, none⟩)] w fun e w' => ∃ (v' : Value) (rs : List PR), e = .returned v' ∧ SlAt w' v' L.length (rs.flatMap encPR) ∧ rs.length = L.length ∧ (∀ (i : Nat) r n, rs[i]? = some r → L[i]? = some n → PRAt w' n r) ∧ Below w.heap.size w w' := by
 have HS := Lib.hid hS
 have c4 : w.cell? ⟨P, 4, none⟩ = some v := Za hS.head rfl
 obtain ⟨a, cap, rfl, -⟩ := hS.form
 have HF := Lib.hid (And.intro hO.few hO.cls)
 clear hS hO
 go_enter Tryz.func45, Tryz.ntmps45
 go_wp2_with fail
 clear c4
 go_loopg [3, 16] L.length (fun g ov i wr => ∃ (k : Nat) (D : List PR), g = L.length - k ∧ i = .int .i64 k ∧ k ≤ L.length ∧ D.length = k ∧ RIn w wr ov L D ∧ Below w.heap.size w wr)
 case atStart => exact ⟨0, [], rfl, rfl, Nat.zero_le _, rfl, ⟨Za4 _ _ _ _, fun i r n h => by simp at h⟩, Below.refl _ _⟩
 case round =>
  obtain ⟨k, D, hg, rfl, hk, hD, hI, hb⟩ := hrel
  have HG := Lib.hid hg
  have HD := Lib.hid hD
  have HI := Lib.hid hI
  have HB := Lib.hid hb
  clear hg hD hI hb
  by_cases hlt : k < L.length
  ·obtain ⟨n, hn⟩ : ∃ n, L[k]? = some n := ⟨_, List.getElem?_eq_getElem hlt⟩
   have HN := Lib.hid hn
   have hSK := HS.out.below HB.out
   obtain ⟨g, off, cap', hv, d0⟩ := hSK.at hn
   cases hv
   have hNK := hSK.need k n hn
   have HNL := Lib.hid (show n.cls.length ≤ 1000000 by rw [hNK.len]; exact HF.out.2)
   have n0 : wr.cell? ⟨n.blk, 0, none⟩ = some (.string n.name) := Za hNK.blk rfl
   have n1 : wr.cell? ⟨n.blk, 1, none⟩ = some (.int .i64 n.uses) := Za hNK.blk rfl
   have hkl : (k : Int) < (L.length : Int) := by omega
   have nlt := Zb hNK.blk
   clear hn hSK hNK
   go_upto_region 7 with fail
   go_cut [6] (fun bv wx => ∃ xb : Nat, bv = .pointer (some ⟨xb, 0, none⟩) ∧ RSt wr xb n 0 0 0 wx)
   case first =>
    go_region
    all_goals
     clear n0 n1 d0 nlt
     go_wp2_with fail
     go_meet
     exact ⟨wr.heap.size, rfl, ⟨⟨.slice none 0 0, .slice none 0 0, .slice none 0 0, [], Zf, Za4 _ _ _ _, Za4 _ _ _ _, fun j c h => by simp at h, Za4 _ _ _ _⟩, ZO box_below 1, Nat.le_refl _⟩⟩
   case rest =>
    obtain ⟨xb, rfl, hst⟩ := hcut
    obtain ⟨w5, rfl⟩ : ∃ w5 : World, w5 = wr := ⟨_, rfl⟩
    have HST := Lib.hid hst
    have hSC := HS.out.below (HB.out.trans (hst.below.mono HB.out.size))
    have hNC := hSC.need k n HN.out
    obtain ⟨ca, cc, hcv, -⟩ := hNC.form
    have HCV := Lib.hid hcv
    have n2 : wc.cell? ⟨n.blk, 2, none⟩ = some (.slice ca n.cls.length cc) := by rw [← hcv]; exact Za hNC.blk rfl
    clear hst hSC hNC hcv n0 n1 d0 nlt
    go_wp2_with fail
    clear n2
    go_loopg [34] n.cls.length (fun g i w' => ∃ j : Nat, g = n.cls.length - j ∧ i = .int .i64 j ∧ j ≤ n.cls.length ∧ RSt w5 xb n j j j w')
    case atStart => exact ⟨0, rfl, rfl, Nat.zero_le _, HST.out⟩
    case round =>
     obtain ⟨j, hg, rfl, hj, hst⟩ := hrel
     have HG2 := Lib.hid hg
     have HST2 := Lib.hid hst
     have HS2 := Lib.hid (show ∀ w', Below w5.heap.size w5 w' → PoolAt ρ w' P x next (.slice (some ⟨g, off, none⟩) L.length cap) L from fun w' hb => HS.out.below (HB.out.trans (hb.mono HB.out.size)))
     clear hg hst
     by_cases hlj : j < n.cls.length
     ·obtain ⟨c, hc⟩ : ∃ c, n.cls[j]? = some c := ⟨_, List.getElem?_eq_getElem hlj⟩
      have HC := Lib.hid hc
      have hN2 := (HS2.out wr HST2.out.below).need k n HN.out
      obtain ⟨g2, off2, cap2, hcv2, d2⟩ := hN2.arr.at (i := j) (b := c.blk) (by rw [List.getElem?_map, hc]; rfl)
      rw [List.length_map] at hcv2
      rw [show ptrV c.blk = .pointer (some ⟨c.blk, 0, none⟩) from rfl] at d2
      have hcl := hN2.cls j c hc
      have e0 : wr.cell? ⟨c.blk, 0, none⟩ = some (.int .i64 c.served) := Za hcl.blk rfl
      have hjl : (j : Int) < (n.cls.length : Int) := by omega
      have hnl := HNL.out
      have HCA := Lib.hid (show ca = some ⟨g2, off2, none⟩ from by have h := HCV.out.symm.trans hcv2; cases h; rfl)
      have hca := HCA.out
      subst hca
      clear hc hN2 hcv2 hcl
      go_upto_region 11 with fail
      clear d2
      go_cut [] (fun wx => RSt w5 xb n (j + 1) j j wx)
      case first =>
       obtain ⟨sv, hv, gv, sl, hx, hos, hoh, hlk, hog⟩ := HST2.out.cells
       have HX := Lib.hid hx
       have HOS := Lib.hid hos
       have HOH := Lib.hid hoh
       have HOG := Lib.hid hog
       have q2 : wr.cell? ⟨xb, 2, none⟩ = some sv := Za hx rfl
       have lx := Zb hx
       have lc := World.block_lt_of_cell? wr _ e0
       obtain ⟨i1, hi0, hz0, hz1, hz2⟩ := info_parts ZdZ
       clear hx hos hoh hog
       go_region_law (refine step_append_lies _ (by rfl) _ _ _ (by rfl) (xb + 1) 3 i1 _ 1 8 Tryz.underlying52 hi0 hz0 hz1 hz2 rfl (by decide) sv j (((n.cls.take j).map PC.served).flatMap encZ) (by rfl) ((Zk HOS.out ⟨rfl, rfl, rfl, Nat.le_refl _, fun _ _ => rfl⟩).alloc _) ⟨wr.heap.size, 0, none⟩ 1 1 (encZ c.served) (by rfl) (by rfl) (World.news_of_block (cs := #[.int .i64 c.served]) (t := 3) (fr := (0, 0)) (heap_alloc_new _ _)) (by simp [Value.oneCell', encZ]) (by omega) (by unfold maxLen; omega) (by omega) (by simp; omega) (wr.heap.size + 1) (by simp) ?_; intro gg gcap w9 hown9 hgrow hat hlt9; (have hx9 : w9.heap[xb]? = some (.cells (encPR ⟨n.name, n.uses, sv, hv, gv⟩).toArray 95 (0, 0)) := (hgrow.block xb (by simp; omega) (fun e => by have := Zl HOS.out xb e.symm; omega)).trans (Zi HX.out)); (have k2 : w9.cell? ⟨xb, 2, none⟩ = some sv := Za hx9 rfl); (have f2 : w9.frozen? ⟨xb, 2, none⟩ = false := Zd hx9))
       all_goals
        go_wp2_with fail
        go_meet
        exact HST2.out.served HC.out HX.out HOS.out HOH.out hlk HOG.out hown9 ⟨hgrow.os, hgrow.tape, hgrow.output, hgrow.size, hgrow.block⟩
      case rest =>
       have HST3 := Lib.hid hcut
       clear hcut e0
       go_upto_region 12 with fail
       go_cut [] (fun wx => RSt w5 xb n (j + 1) (j + 1) j wx)
       case first =>
        have hS12 := HS2.out _ HST3.out.below
        have hC12 := (hS12.need k n HN.out).cls j c HC.out
        have HSH := Lib.hid hC12.share
        have e1 : wc.cell? ⟨c.blk, 1, none⟩ = some (.pointer (some ⟨c.f, 0, none⟩)) := Za hC12.blk rfl
        obtain ⟨sv, hv, gv, sl, hx, hos, hoh, hlk, hog⟩ := HST3.out.cells
        have HX := Lib.hid hx
        have HOS := Lib.hid hos
        have HOH := Lib.hid hoh
        have HOG := Lib.hid hog
        have q3 : wc.cell? ⟨xb, 3, none⟩ = some hv := Za hx rfl
        have hbd : Below wc.heap.size wc wc.drew := ⟨rfl, rfl, rfl, Nat.le_refl _, fun _ _ => rfl⟩
        have HLX := Lib.hid (Zb hx)
        obtain ⟨i1, hi0, hz0, hz1, hz2⟩ := info_parts Zis
        clear hx hos hoh hog hS12 hC12
        go_region_law (first
         | (go_simp; go_at_call 65; refine (Zcz _ (HSH.out.below hbd)).mono ?_; rintro e w6 ⟨v6, l6, rfl, h6, hm6, hb6'⟩; obtain ⟨a6, c6, hv6⟩ : ∃ a6 c6, v6 = .slice a6 c.rows.length c6 := (by obtain ⟨a6, c6, e6, _⟩ := h6.rows.form; exact ⟨a6, c6, by rw [e6, ← hm6, List.length_map]⟩); subst hv6; clear h6 hm6; (have hb6 := Zr hbd hb6'); (have H6 := Lib.hid (HST3.out.on hb6)); (have hx6 := (hb6.block xb HLX.out).trans HX.out); (have HX6 := Lib.hid hx6); (have q6 : w6.cell? ⟨xb, 3, none⟩ = some hv := Za hx6 rfl); (have lx6 := Zb hx6); (have HB6 := Lib.hid hb6); clear hb6' hb6 hx6)
         | (refine step_append_lies _ (by rfl) _ _ _ (by rfl) (xb + 1) 101 i1 _ 1 24 Tryz.underlying92 hi0 hz0 hz1 hz2 rfl (by decide) hv j sl (by rfl) ((Zk HOH.out HB6.out).alloc _) ⟨w6.heap.size, 0, none⟩ 1 1 [.slice a6 c.rows.length c6] (by rfl) (by rfl) (World.news_of_block (cs := #[.slice a6 c.rows.length c6]) (t := 101) (fr := (0, 0)) (heap_alloc_new _ _)) (by simp [Value.oneCell']) (by omega) (by unfold maxLen; omega) (by omega) (by simp; omega) (w6.heap.size + 1) (by simp) ?_; intro gg gcap w9 hown9 hgrow hat hlt9; (have hx9 : w9.heap[xb]? = some (.cells (encPR ⟨n.name, n.uses, sv, hv, gv⟩).toArray 95 (0, 0)) := (hgrow.block xb (by simp; omega) (fun e => by have := Zl HOH.out xb e.symm; omega)).trans (Zi HX6.out)); (have k2 : w9.cell? ⟨xb, 3, none⟩ = some hv := Za hx9 rfl); (have f2 : w9.frozen? ⟨xb, 3, none⟩ = false := Zd hx9)))
        all_goals
         go_wp2_with fail
         go_meet
         exact H6.out.shares HC.out HX6.out (Zk HOS.out HB6.out) (Zk HOH.out HB6.out) hlk (Zk HOG.out HB6.out) hown9 ⟨hgrow.os, hgrow.tape, hgrow.output, hgrow.size, hgrow.block⟩
       case rest =>
        have HST4 := Lib.hid hcut
        clear hcut
        go_upto_region 13 with fail
        have hS12 := HS2.out _ HST4.out.below
        have hC12 := (hS12.need k n HN.out).cls j c HC.out
        have HSH := Lib.hid hC12.share
        have e1 : wc.cell? ⟨c.blk, 1, none⟩ = some (.pointer (some ⟨c.f, 0, none⟩)) := Za hC12.blk rfl
        obtain ⟨sv, hv, gv, sl, hx, hos, hoh, hlk, hog⟩ := HST4.out.cells
        have HX := Lib.hid hx
        have HOS := Lib.hid hos
        have HOH := Lib.hid hoh
        have HOG := Lib.hid hog
        have q3 : wc.cell? ⟨xb, 4, none⟩ = some gv := Za hx rfl
        have hbd : Below wc.heap.size wc wc.drew := ⟨rfl, rfl, rfl, Nat.le_refl _, fun _ _ => rfl⟩
        have HLX := Lib.hid (Zb hx)
        obtain ⟨i1, hi0, hz0, hz1, hz2⟩ := info_parts Zfz
        clear hx hos hoh hog hS12 hC12
        go_region_law (first
         | (go_simp; go_at_call 76; refine (Zds _ (HSH.out.below hbd)).mono ?_; rintro e w6 ⟨rfl, hb6'⟩; (have hb6 := Zr hbd hb6'); (have H6 := Lib.hid (HST4.out.on hb6)); (have hx6 := (hb6.block xb HLX.out).trans HX.out); (have HX6 := Lib.hid hx6); (have q6 : w6.cell? ⟨xb, 4, none⟩ = some gv := Za hx6 rfl); (have lx6 := Zb hx6); (have HB6 := Lib.hid hb6); clear hb6' hb6 hx6)
         | (refine step_append_lies _ (by rfl) _ _ _ (by rfl) (xb + 1) 4 i1 _ 1 1 Tryz.underlying93 hi0 hz0 hz1 hz2 rfl (by decide) gv j ((n.cls.take j).map (fun c => Value.bool c.gv)) (by rfl) ((Zk HOG.out HB6.out).alloc _) ⟨w6.heap.size, 0, none⟩ 1 1 [.bool c.gv] (by rfl) (by rfl) (World.news_of_block (cs := #[.bool c.gv]) (t := 4) (fr := (0, 0)) (heap_alloc_new _ _)) (by simp [Value.oneCell']) (by omega) (by unfold maxLen; omega) (by omega) (by simp; omega) (w6.heap.size + 1) (by simp) ?_; intro gg gcap w9 hown9 hgrow hat hlt9; (have hx9 : w9.heap[xb]? = some (.cells (encPR ⟨n.name, n.uses, sv, hv, gv⟩).toArray 95 (0, 0)) := (hgrow.block xb (by simp; omega) (fun e => by have := Zl HOG.out xb e.symm; omega)).trans (Zi HX6.out)); (have k2 : w9.cell? ⟨xb, 4, none⟩ = some gv := Za hx9 rfl); (have f2 : w9.frozen? ⟨xb, 4, none⟩ = false := Zd hx9)))
        have hnl2 := HNL.out
        all_goals
         go_wp2_with fail
         go_roundg (n.cls.length - (j + 1))
         case rel => exact ⟨j + 1, rfl, by go_num, by omega, H6.out.given HC.out HX6.out (Zk HOS.out HB6.out) (Zk HOH.out HB6.out) hlk (Zk HOG.out HB6.out) hown9 ⟨hgrow.os, hgrow.tape, hgrow.output, hgrow.size, hgrow.block⟩⟩
         case measure => have := HG2.out; omega
     ·obtain rfl : j = n.cls.length := by omega
      obtain ⟨⟨rn, ru, rsv, rhv, rgv⟩, hr, hri⟩ := HST2.out.row
      have hlo := HST2.out.lo
      have hbw := HB.out.size
      have HI9 := Lib.hid (HI.out.below HST2.out.below)
      have HB9 := Lib.hid (HB.out.trans (HST2.out.below.mono HB.out.size))
      obtain ⟨sa, sc, hsv, -⟩ := hri.at.sv.form
      obtain ⟨_, hsl, _⟩ := hri.at.hv
      obtain ⟨ha, hc, hhv, -⟩ := hsl.form
      obtain ⟨ga, gc, hgv, -⟩ := hri.at.gv.form
      simp only at hsv hhv hgv
      subst hsv hhv hgv
      have HRI := Lib.hid (hri.base (b := w.heap.size) (by omega))
      have k0 : wr.cell? ⟨xb, 0, none⟩ = some (.string rn) := Za hr rfl
      have k1 : wr.cell? ⟨xb, 1, none⟩ = some (.int .i64 ru) := Za hr rfl
      have k2 : wr.cell? ⟨xb, 2, none⟩ = some (.slice sa n.cls.length sc) := Za hr rfl
      have k3 : wr.cell? ⟨xb, 3, none⟩ = some (.slice ha n.cls.length hc) := Za hr rfl
      have k4 : wr.cell? ⟨xb, 4, none⟩ = some (.slice ga n.cls.length gc) := Za hr rfl
      have hc1 := HB9.out.size
      have hfw := HF.out.1
      have hdl := HD.out
      have hc2 : D.length < 140737488355328 := by omega
      have hc3 : (D.length + 1) * 96 ≤ 140737488355328 := by omega
      clear hr hri hsl hlo hbw hdl
      go_wp2_with (at_builtin; refine Zv (us := #[.string rn, .int .i64 ru, .slice sa n.cls.length sc, .slice ha n.cls.length hc, .slice ga n.cls.length gc]) rfl _ _ 59 rfl w.heap.size _ 5 96 Tryz.underlying59 Zj7 rfl (by decide) u3 D.length (D.flatMap encPR) rfl HI9.out.own rfl rfl (by simp [Value.oneCell']) ?c1 ?c2 ?c3 ?_; (case c1 => exact hc1); (case c2 => exact hc2); (case c3 => exact hc3); intro gg gcap w10 ho10 hg10 hat10)
      have HI10 := Lib.hid (HI9.out.snoc (by rw [HD.out]; exact HN.out) HRI.out ho10 hg10)
      have HB10 := Lib.hid (HB9.out.trans ⟨hg10.os, hg10.tape, hg10.output, hg10.size, fun j hj => hg10.block j (by omega) (fun e => by have := Zl HI9.out.own j e.symm; omega)⟩ : Below w.heap.size w w10)
      clear ho10 hg10 hat10 k0 k1 k2 k3 k4 hc1 hc2 hc3
      go_wp2_with fail
      go_roundg (L.length - (k + 1))
      case rel => exact ⟨k + 1, _, rfl, by go_num, by omega, by rw [List.length_append, List.length_singleton, HD.out], HI10.out, HB10.out⟩
      case measure => have := HG.out; omega
  ·have HK := Lib.hid (show k = L.length by omega)
   obtain ⟨oa, oc, hov, -⟩ := ZC HI.out.own
   go_wp2_with fail
   go_ret
   refine ⟨_, D, rfl, ?_, by rw [HD.out, HK.out], fun i r n h1 h2 => (HI.out.row i r n h1 h2).at, HB.out⟩
   have h := Zbj HI.out.own
   rw [HD.out, HK.out] at h
   exact h
end
theorem Zit {w : World} {v : Value} {l : List DV} (h : DRowsAt w v l) (hf : FewT (l.map Prod.fst)) : FewD l := by
 refine ⟨by have := hf.1; rwa [List.length_map] at this, fun p hp => ?_⟩
 have hi := (h.inv p hp).same
 have hx := hf.2 p.1 (List.mem_map_of_mem hp)
 rw [← hi, List.length_map] at hx
 exact ⟨hx.1, fun r hr => hx.2 r.1 (List.mem_map_of_mem hr)⟩
set_option maxRecDepth 100000 in
set_option maxHeartbeats 4000000 in
theorem Zk2 (v : Value) (l : List (FRow × Value)) (w : World) (h : RowsAt w v l) (hf : l.length ≤ 1000000) : Calls Tryz.prog 108 #[v] w fun e w' => ∃ v', e = .returned v' ∧ w'.ownsRow w.heap.size 157 4 v' l.length (Zt l) ∧ Below w.heap.size w w' := by
 have HR := Lib.hid h
 have HL := Lib.hid hf
 obtain ⟨a, cap, rfl, -⟩ := h.form
 clear h hf
 go_enter Tryz.func108, Tryz.ntmps108
 go_wp2_with fail
 go_loopg [3, 4] l.length (fun g ov i wr => ∃ k : Nat, g = l.length - k ∧ i = .int .i64 k ∧ k ≤ l.length ∧ wr.ownsRow w.heap.size 157 4 ov (l.take k).length (Zt (l.take k)) ∧ Below w.heap.size w wr)
 case atStart => exact ⟨0, rfl, rfl, Nat.zero_le _, Zal (Nat.le_refl _), box_below⟩
 case round =>
  obtain ⟨k, hg, rfl, hk, ho, hb⟩ := hrel
  have HG := Lib.hid hg
  have HO := Lib.hid ho
  have HB := Lib.hid hb
  clear hg ho hb
  by_cases hlt : k < l.length
  ·obtain ⟨⟨x, vx⟩, hx⟩ : ∃ p, l[k]? = some p := ⟨_, List.getElem?_eq_getElem hlt⟩
   have HXX := Lib.hid hx
   obtain ⟨ax, cx, rfl⟩ : ∃ ax cx, vx = .slice ax x.its.length cx := ZN (HR.out.its _ (List.mem_of_getElem? hx))
   obtain ⟨g, off, cap', hv, _, c0, c1, c2, c3⟩ := (HR.out.below HB.out).at hx
   cases hv
   simp only at c0 c1 c2 c3
   have HT := Lib.hid (show l.take (k + 1) = l.take k ++ [(x, .slice ax x.its.length cx)] by rw [List.take_succ_eq_append_getElem hlt, (List.getElem?_eq_some_iff.1 hx).2])
   have hkl : (k : Int) < (l.length : Int) := by omega
   have htl : (l.take k).length = k := by rw [List.length_take]; omega
   have hf := HL.out
   obtain ⟨D, hD⟩ : ∃ D, D = l.take k := ⟨_, rfl⟩
   rw [← hD] at HO HT htl
   rw [htl] at HO
   have hgw : g < w.heap.size := by
    obtain ⟨g2, off2, cap2, hv2, _, q0, _⟩ := HR.out.at hx
    cases hv2
    exact World.block_lt_of_cell? w _ q0
   obtain ⟨i0, hi0, hz0, hz1, hz2⟩ := info_parts Za8
   have hw1 := HB.out.size
   clear hx hD
   go_upto_region 5 with fail
   go_region_held3 (fun w' => w'.cell? ⟨g, off + k * 4, none⟩ = some (.int .i64 x.id) ∧ w'.cell? ⟨g, off + k * 4 + 1, none⟩ = some (.int .i64 x.wt) ∧ w'.cell? ⟨g, off + k * 4 + 2, none⟩ = some (.int .i64 x.df) ∧ w'.cell? ⟨g, off + k * 4 + 3, none⟩ = some (.slice ax x.its.length cx))
    (first
      | go_keep
      | exact ⟨(hb9.cell (p := ⟨g, off + k * 4, none⟩) hgw).trans ((HB.out.cell (p := ⟨g, off + k * 4, none⟩) hgw).symm.trans c0), (hb9.cell (p := ⟨g, off + k * 4 + 1, none⟩) hgw).trans ((HB.out.cell (p := ⟨g, off + k * 4 + 1, none⟩) hgw).symm.trans c1), (hb9.cell (p := ⟨g, off + k * 4 + 2, none⟩) hgw).trans ((HB.out.cell (p := ⟨g, off + k * 4 + 2, none⟩) hgw).symm.trans c2), (hb9.cell (p := ⟨g, off + k * 4 + 3, none⟩) hgw).trans ((HB.out.cell (p := ⟨g, off + k * 4 + 3, none⟩) hgw).symm.trans c3)⟩)
    (first
      | (refine step_append_lies _ (by rfl) _ _ _ (by rfl) w.heap.size 157 i0 _ 4 48 Tryz.underlying102 hi0 hz0 hz1 hz2 rfl (by omega) u3 k (Zt D) (by rfl) ((Zk HO.out ⟨rfl, rfl, rfl, Nat.le_refl _, fun _ _ => rfl⟩).alloc _)
          ⟨wr.heap.size, 0, none⟩ 1 1 (encRV (x, .slice ax x.its.length cx)) (by rfl) (by rfl) (World.news_of_block (cs := #[.int .i64 x.id, .int .i64 x.wt, .int .i64 x.df, .slice ax x.its.length cx]) (t := 157) (fr := (0, 0)) (heap_alloc_new _ _)) (by simp [Value.oneCell', encRV]) (by omega) (by unfold maxLen; omega) (by omega) (by simp; omega) (wr.heap.size + 1) (by simp) ?_; intro gg gcap w9 hown9 hgrow hat hlt9; (have hb9 : Below w.heap.size w w9 := (HB.out.alloc hw1 _).trans ⟨hgrow.os, hgrow.tape, hgrow.output, Nat.le_trans (by simp) hgrow.size, fun j hj => hgrow.block j (by simp; omega) (fun e => by have := Zl HO.out j e.symm; omega)⟩)))
   have HO9 := Lib.hid hown9
   have HB9 := Lib.hid hb9
   clear hown9 hgrow hat hlt9 hb9 hi0 hz0 hz1 hz2 hgw c0 c1 c2 c3
   go_wp2_with fail
   go_roundg (l.length - (k + 1))
   case rel => exact ⟨k + 1, rfl, by go_num, by omega, by rw [HT.out, List.length_append, ZaD, htl]; exact HO9.out, HB9.out⟩
   case measure => have := HG.out; omega
  ·have HK := Lib.hid (show l.take k = l from List.take_of_length_le (by omega))
   go_wp2_with fail
   go_ret
   have h := HO.out
   rw [HK.out] at h
   exact ⟨_, rfl, h, HB.out⟩
structure DIn (w wr : World) (ov : Value) (l : List DV) : Prop where
 own : wr.ownsRow w.heap.size 106 6 ov l.length (Z6 l)
 inv : ∀ p ∈ l, wr.ownsRow w.heap.size 157 4 p.2.2.1 p.2.2.2.length (Zt p.2.2.2) ∧ (∀ r ∈ p.2.2.2, ItsAt w r.2 r.1.its) ∧ p.2.2.2.map Prod.fst = p.1.rows
theorem DIn.below {w wr w' : World} {ov : Value} {l : List DV} (h : DIn w wr ov l) (hb : Below wr.heap.size wr w') : DIn w w' ov l := ⟨Zk h.own hb, fun p hp => ⟨Zk (h.inv p hp).1 hb, (h.inv p hp).2⟩⟩
theorem DIn.rows {w wr : World} {ov : Value} {l : List DV} (h : DIn w wr ov l) (hb : Below w.heap.size w wr) : DRowsAt wr ov l :=
 ZeD h.own (fun p hp => ⟨ZbB (h.inv p hp).1 (fun r hr => ((h.inv p hp).2.1 r hr).below hb), (h.inv p hp).2.2⟩)
set_option maxRecDepth 100000 in
set_option maxHeartbeats 4000000 in
theorem Zk3 (v : Value) (l : List TV) (w : World) (h : TRowsAt w v l) (hf : l.length ≤ 1000000) (hfs : ∀ p ∈ l, p.2.2.length ≤ 1000000) : Calls Tryz.prog 78 #[v] w fun e w' => ∃ v' l', e = .returned v' ∧ DRowsAt w' v' l' ∧ l'.map Prod.fst = l.map Prod.fst ∧ Below w.heap.size w w' := by
 have HR := Lib.hid h
 have HL := Lib.hid hf
 have HLS := Lib.hid hfs
 obtain ⟨a, cap, rfl, -⟩ := h.form
 clear h hf hfs
 go_enter Tryz.func78, Tryz.ntmps78
 go_wp2_with fail
 go_loopg [3, 4] l.length (fun g ov i wr => ∃ (k : Nat) (D : List DV), g = l.length - k ∧ i = .int .i64 k ∧ k ≤ l.length ∧ D.map Prod.fst = (l.map Prod.fst).take k ∧ DIn w wr ov D ∧ Below w.heap.size w wr)
 case atStart => exact ⟨0, [], rfl, rfl, Nat.zero_le _, rfl, ⟨Zal (Nat.le_refl _), fun p hp => by cases hp⟩, box_below⟩
 case round =>
  obtain ⟨k, D, hg, rfl, hk, hm, ho, hb⟩ := hrel
  have HG := Lib.hid hg
  have HM := Lib.hid hm
  have HO := Lib.hid ho
  have HB := Lib.hid hb
  clear hg ho hb hm
  by_cases hlt : k < l.length
  ·obtain ⟨⟨x, vx, li⟩, hx⟩ : ∃ p, l[k]? = some p := ⟨_, List.getElem?_eq_getElem hlt⟩
   have hmem := List.mem_of_getElem? hx
   have HIN := Lib.hid (HR.out.inv _ hmem)
   have HFI := Lib.hid (HLS.out _ hmem)
   obtain ⟨ax, cx, hvx, -⟩ := (HR.out.inv _ hmem).1.form
   simp only at hvx
   subst hvx
   obtain ⟨g, off, cap', hv, _, c0, c1, c2, c3, c4⟩ := (HR.out.below HB.out).at hx
   cases hv
   simp only at c0 c1 c2 c3 c4
   have HXX := Lib.hid (show (l.map Prod.fst)[k]? = some x by rw [List.getElem?_map, hx]; rfl)
   have hkl : (k : Int) < (l.length : Int) := by omega
   have hll : D.length = k := by
    have h := congrArg List.length HM.out
    rw [List.length_map, List.length_take, List.length_map] at h
    omega
   have hf := HL.out
   have hgw : g < w.heap.size := by
    obtain ⟨g2, off2, cap2, hv2, _, q0, _⟩ := HR.out.at hx
    cases hv2
    exact World.block_lt_of_cell? w _ q0
   obtain ⟨i0, hi0, hz0, hz1, hz2⟩ := info_parts Zcv
   have hw1 := HB.out.size
   have hbd : Below wr.heap.size wr wr.drew := ⟨rfl, rfl, rfl, Nat.le_refl _, fun _ _ => rfl⟩
   clear hx hmem
   go_upto_region 5 with fail
   go_region_held3 (fun w' => w'.cell? ⟨g, off + k * 5, none⟩ = some (.int .i64 x.id) ∧ w'.cell? ⟨g, off + k * 5 + 1, none⟩ = some (.int .i64 x.wt) ∧ w'.cell? ⟨g, off + k * 5 + 2, none⟩ = some (.int .i64 x.df) ∧ w'.cell? ⟨g, off + k * 5 + 3, none⟩ = some (.slice ax li.length cx) ∧ w'.cell? ⟨g, off + k * 5 + 4, none⟩ = some (.bool x.gv))
    (first
      | go_keep
      | exact ⟨Zc hb5 c0, Zc hb5 c1, Zc hb5 c2, Zc hb5 c3, Zc hb5 c4⟩
      | exact ⟨(hb9.cell (p := ⟨g, off + k * 5, none⟩) hgw).trans ((HB.out.cell (p := ⟨g, off + k * 5, none⟩) hgw).symm.trans c0), (hb9.cell (p := ⟨g, off + k * 5 + 1, none⟩) hgw).trans ((HB.out.cell (p := ⟨g, off + k * 5 + 1, none⟩) hgw).symm.trans c1), (hb9.cell (p := ⟨g, off + k * 5 + 2, none⟩) hgw).trans ((HB.out.cell (p := ⟨g, off + k * 5 + 2, none⟩) hgw).symm.trans c2), (hb9.cell (p := ⟨g, off + k * 5 + 3, none⟩) hgw).trans ((HB.out.cell (p := ⟨g, off + k * 5 + 3, none⟩) hgw).symm.trans c3), (hb9.cell (p := ⟨g, off + k * 5 + 4, none⟩) hgw).trans ((HB.out.cell (p := ⟨g, off + k * 5 + 4, none⟩) hgw).symm.trans c4)⟩)
    (first
      | (go_at_call 108; refine (Zk2 _ li _ ((HIN.out.1.below HB.out).below hbd) HFI.out).mono ?_; rintro e w5 ⟨vi, rfl, hown5, hb5'⟩; (have hb5 := Zr hbd hb5'); obtain ⟨ai, ci, hvi, -⟩ := ZC hown5; subst hvi; (have hs5 : wr.heap.size ≤ w5.heap.size := hb5.size); (have HOWN5 := Lib.hid hown5); clear hb5' hown5)
      | (refine step_append_lies _ (by rfl) _ _ _ (by rfl) w.heap.size 106 i0 _ 6 64 Tryz.underlying98 hi0 hz0 hz1 hz2 rfl (by omega) u3 D.length (Z6 D) (by rfl) ((Zk HO.out.own hb5).alloc _)
          ⟨w5.heap.size, 0, none⟩ 1 1 (encDV (x, 0, .slice ai li.length ci, li)) (by rfl) (by rfl) (World.news_of_block (cs := #[.int .i64 x.id, .int .i64 x.wt, .int .i64 x.df, .int .i64 0, .slice ai li.length ci, .bool x.gv]) (t := 106) (fr := (0, 0)) (heap_alloc_new _ _)) (by simp [Value.oneCell', encDV]) (by omega) (by unfold maxLen; omega) (by omega) (by simp; omega) (w5.heap.size + 1) (by simp) ?_; intro gg gcap w9 hown9 hgrow hat hlt9; (have hb9 : Below w.heap.size w w9 := ((HB.out.trans (hb5.mono hw1)).alloc (by omega) _).grown hgrow (by simp; omega) (fun j hj => Zl HO.out.own j hj))))
   have hr9 := (show DIn w w9 (.slice (some ⟨gg, 0, none⟩) (D.length + 1) gcap) (D ++ [(x, 0, .slice ai li.length ci, li)]) from ⟨by rw [List.length_append, Zco]; exact hown9, fun p hp => by
    have hkp : ∀ {e : TypeId} {s : Nat} {vv : Value} {m : Nat} {xs : List Value}, e ≠ 106 → w5.ownsRow w.heap.size e s vv m xs → w9.ownsRow w.heap.size e s vv m xs := fun hne h => World.ownsRow.kept (h.alloc _) hgrow (ZG h (Zk HO.out.own hb5) hne)
    rcases List.mem_append.1 hp with hp | hp
    ·exact ⟨hkp (by decide) (Zk (HO.out.inv p hp).1 hb5), (HO.out.inv p hp).2⟩
    ·rw [List.mem_singleton] at hp
     subst hp
     exact ⟨hkp (by decide) (Zap HOWN5.out hw1), fun r hr => HIN.out.1.its r hr, HIN.out.2⟩⟩)
   rw [hll] at hr9
   have HR9 := Lib.hid hr9
   have HB9 := Lib.hid hb9
   clear hr9 hown9 hgrow hat hlt9 hb5 hb9 hbd hs5 hi0 hz0 hz1 hz2 hgw c0 c1 c2 c3 c4
   go_wp2_with fail
   go_roundg (l.length - (k + 1))
   case rel =>
    refine ⟨k + 1, _, rfl, by go_num, by omega, ?_, HR9.out, HB9.out⟩
    rw [List.map_append, HM.out, List.take_add_one, HXX.out]
    rfl
   case measure => have := HG.out; omega
  ·have HK := Lib.hid (show D.map Prod.fst = l.map Prod.fst by rw [HM.out]; exact List.take_of_length_le (by rw [List.length_map]; omega))
   go_wp2_with fail
   go_ret
   exact ⟨_, D, rfl, HO.out.rows HB.out, HK.out, HB.out⟩
end Go.Proofs.YtdbjihkgafhakaaGreatDoor
/-
 law16: Same, entry, num: the walks.
-/
namespace Go.Proofs.YtdbjihkgafhakaaGreatDoor
open Go.RowKit Go.Sort
section
variable {pre : List Int} {ρ : Roles} {f : Nat} {q : Int} {gv : Bool} {rows : List TRow}
set_option maxRecDepth 100000 in
set_option maxHeartbeats 4000000 in
theorem Zk4 (q' : Int) (v : Value) (l : List DV) (w : World) (hR : ShareAt pre ρ w f q gv rows) (hf : totT rows ≤ 1000000) (hD : DRowsAt w v l) (hm : l.map Prod.fst = rows) : Calls Tryz.prog 48 #[.pointer (some ⟨f, 0, none⟩), .agg #[.int .i64 q', v, .bool gv]] w (Zc2 w) := by
 have hfe := Zdu hR.fullT hf
 have HF := Lib.hid hf
 have HM := Lib.hid hm
 have HFE := Lib.hid hfe
 have HR := Lib.hid (hR.below (box_below (o := .cells #[.int .i64 q', v, .bool gv] 100)))
 have HD := Lib.hid (hD.below (box_below (o := .cells #[.int .i64 q', v, .bool gv] 100)))
 obtain ⟨a, cap, rfl, -⟩ := hD.form
 clear hR hf hD hm hfe
 go_enter Tryz.func48, Tryz.ntmps48
 go_upto_region 1 with fail
 obtain ⟨w1, hw1⟩ : ∃ w1 : World, w1 = w.alloc (.cells #[.int .i64 q', .slice a l.length cap, .bool gv] 100) := ⟨_, rfl⟩
 obtain ⟨bx, hbx⟩ : ∃ bx : Nat, bx = w.heap.size := ⟨_, rfl⟩
 rw [← hw1] at HR HD
 rw [← hw1, ← hbx]
 have hx1 : w1.heap[bx]? = some (.cells #[.int .i64 q', .slice a l.length cap, .bool gv] 100 (0, 0)) := by rw [hw1, hbx]; exact Zf
 have HB1 := Lib.hid (show Below w.heap.size w w1 by rw [hw1]; exact box_below)
 have b0 : w1.cell? ⟨bx, 0, none⟩ = some (.int .i64 q') := Za hx1 rfl
 have b1 : w1.cell? ⟨bx, 1, none⟩ = some (.slice a l.length cap) := Za hx1 rfl
 have b2 : w1.cell? ⟨bx, 2, none⟩ = some (.bool gv) := Za hx1 rfl
 have h0 : Below w1.heap.size w1 w1.drew := ⟨rfl, rfl, rfl, Nat.le_refl _, fun _ _ => rfl⟩
 have HFD := Lib.hid (Zit HD.out (by rw [HM.out]; exact HFE.out))
 clear hw1 hbx hx1
 go_region_held3 (fun w' => w'.cell? ⟨bx, 0, none⟩ = some (.int .i64 q') ∧ w'.cell? ⟨bx, 1, none⟩ = some (.slice a l.length cap) ∧ w'.cell? ⟨bx, 2, none⟩ = some (.bool gv))
  (first | go_keep | exact ⟨Zc hb6 b0, Zc hb6 b1, Zc hb6 b2⟩ | exact ⟨Zc hb7 b0, Zc hb7 b1, Zc hb7 b2⟩ | exact ⟨Zc hb8 b0, Zc hb8 b1, Zc hb8 b2⟩ | exact ⟨Zc hb9 b0, Zc hb9 b1, Zc hb9 b2⟩ | exact ⟨Zc hb10 b0, Zc hb10 b1, Zc hb10 b2⟩ | exact ⟨Zc hb11 b0, Zc hb11 b1, Zc hb11 b2⟩)
  (first
    | (go_at_call 65; refine (Zcz _ (HR.out.below h0)).mono ?_; rintro e w6 ⟨v6, l6, rfl, h6, hm6, hb6'⟩; (have hb6 := Zr h0 hb6'); (have HR6 := Lib.hid h6.rows); (have HM6 := Lib.hid hm6); (have HFE6 := Lib.hid (ZlB h6.rows (by rw [hm6]; exact HFE.out))); clear hb6' h6 hm6)
    | (go_at_call 78; refine (Zk3 v6 l6 _ HR6.out HFE6.out.1 HFE6.out.2).mono ?_; rintro e w7 ⟨v7, l7, rfl, h7, hm7, hb7'⟩; (have hb7 := Zr hb6 hb7'); (have HR7 := Lib.hid h7); (have HM7 := Lib.hid (hm7.trans HM6.out)); (have HFD7 := Lib.hid (Zit h7 (by rw [hm7, HM6.out]; exact HFE.out))); clear hb7' h7 hm7)
    | (go_at_call 77; refine (ZkU v7 _ l7 l _ HR7.out (HD.out.below hb7) (HM7.out.trans HM.out.symm) HFD7.out).mono ?_; rintro e w8 ⟨rfl, hb8'⟩; (have hb8 := Zr hb7 hb8'); clear hb8')
    | (go_at_call 76; refine (Zds _ (HR.out.below hb8)).mono ?_; rintro e w9 ⟨rfl, hb9'⟩; (have hb9 := Zr hb8 hb9'); clear hb9')
    | (go_at_call 33; refine (ZcS _ (HR.out.below hb9) HF.out).mono ?_; rintro e w10 ⟨rfl, hb10'⟩; (have hb10 := Zr hb9 hb10'); clear hb10')
    | (go_at_call 49; refine (ZdX q' gv _ l _ (HD.out.below hb10) HFD.out (by rw [HM.out]; exact Nat.le_trans HF.out (by decide))).mono ?_; rintro e w11 ⟨rfl, hb11'⟩; rw [HM.out]; (have hb11 := Zr hb10 hb11'); clear hb11'))
 go_wp2_with fail
 go_ret
 exact ⟨Zo (by simp), HB1.out.trans (hb11.mono HB1.out.size)⟩
end
theorem SlAt.cells {α : Type} {enc : α → List Value} {K : Nat} {w : World} {a : Option Addr} {N cap : Nat} {l : List α} (h : SlAt w (.slice a N cap) N (l.flatMap enc)) (hK : ∀ x, (enc x).length = K) (h0 : 0 < K) {k : Nat} {x : α} (hx : l[k]? = some x) : ∃ g off, a = some ⟨g, off, none⟩ ∧ ∀ i u, (enc x)[i]? = some u → w.cell? ⟨g, off + k * K + i, none⟩ = some u := by
 obtain ⟨a', cap', hv, _, hc⟩ := h
 cases hv
 have key : ∀ i u, (enc x)[i]? = some u → (l.flatMap enc)[k * K + i]? = some u := fun i u hu => by
  have hi : i < K := by rw [← hK x]; exact (List.getElem?_eq_some_iff.1 hu).1
  rw [Zbf enc K hK i hx hi]
  exact hu
 obtain ⟨g, off, rfl, _⟩ := hc _ _ (key 0 _ (List.getElem?_eq_getElem (by rw [hK]; exact h0)))
 refine ⟨g, off, rfl, fun i u hu => ?_⟩
 obtain ⟨g', off', he, h1⟩ := hc _ _ (key i u hu)
 cases he
 rw [Nat.add_assoc]
 exact h1
theorem SlAt.one {w : World} {a : Option Addr} {N cap : Nat} {us : List Value} (h : SlAt w (.slice a N cap) N us) {k : Nat} {u : Value} (hu : us[k]? = some u) : ∃ g off, a = some ⟨g, off, none⟩ ∧ w.cell? ⟨g, off + k, none⟩ = some u := by
 obtain ⟨a', cap', hv, _, hc⟩ := h
 cases hv
 exact hc k u hu
end Go.Proofs.YtdbjihkgafhakaaGreatDoor
