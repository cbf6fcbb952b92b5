/-
 law17: the program's pools and the document's, side by side.
 law17: Enter and Leave, by both pools.
 law17: Push and Drop, by both pools.
 law17: what a Take leaves of the needs, wherever they lie; the document's needs, told by the program's.
 pool.Pools and the document's: Take, whatever number comes next (it may wrap): the walks.
 law17: Waits, by both pools.
 law17: a call, by both pools, in whatever order: what is left.
 law17: does: Enter, Leave, Push, Drop by both pools: the walks.
 Two entries that are the same: what '==' tells.
 law17: does: Take by both pools; a call by both, in one law: the walks.
-/
import Derived.Test.YtdbjihkgafhakaaGreatDoorSl19
import Derived.Deep.RegionHeld3
import Derived.Test.YtdbjihkgafhakaaGreatDoorSl10
namespace Go.Proofs.YtdbjihkgafhakaaGreatDoor
open Go.RowKit
theorem RefP.move {G G' S : Nat → Prop} {w w' : World} {b : Nat} {x : PX} {next : Int} {v : Value} {l : List QP} (h : RefP G w b x next v l) (hF : Fp S w w') (h0 : ¬ S b) (hG : ∀ k, k < w.heap.size → G k → G' k ∧ ¬ S k) (hb : ¬ G' b) (hup : ∀ k, w'.heap.size ≤ k → G' k) : RefP G' w' b x next v l := by
 have h2 := h.fp hF h0 (fun k hk hg => (hG k hk hg).2)
 have key : ∀ {u : Value}, InG G w u → InG G' w' u := fun h1 k hk => ⟨(hG k (h1 k hk).2 (h1 k hk).1).1, Nat.lt_of_lt_of_le (h1 k hk).2 hF.size⟩
 exact ⟨h2.head, h2.rows, h2.inv, fun hl => key (h.vg hl), fun p hp => ⟨fun hl => key ((h.ig p hp).sg hl), fun hl => key ((h.ig p hp).hg hl), fun s hs => ⟨fun hl => key (((h.ig p hp).ig s hs).vg hl), fun d hd => ⟨fun hl => key ((((h.ig p hp).ig s hs).ig d hd).vg hl), fun r hr => key ((((h.ig p hp).ig s hs).ig d hd).ig r hr), (((h.ig p hp).ig s hs).ig d hd).few, (((h.ig p hp).ig s hs).ig d hd).fews⟩, ((h.ig p hp).ig s hs).few, ((h.ig p hp).ig s hs).qs⟩⟩, hb, hup, h.few, h.lens⟩
def FreeP (ρ : Roles) (b k : Nat) : Prop := ρ k = [] ∧ k ≠ b
structure BothP (W : World) (P b : Nat) (x : PX) (k : Nat) (next : Int) (v : Value) (L : List PN) (ρ : Roles) (dv : Value) (l : List QP) (wr : World) : Prop where
 st : PlState W P x next v L ρ wr
 doc : RefP (FreeP ρ b) wr b x next dv l
 nb : ρ b = []
 wb : W.heap.size ≤ b
 abs : L.map PN.abs = l.map QP.abs
 lw : Lw x next L k
section
variable {W wr w' : World} {P b k : Nat} {x : PX} {next next' : Int} {v v' dv dv' : Value} {L L' : List PN} {ρ : Roles} {l l' : List QP}
theorem BothP.on (h : BothP W P b x k next v L ρ dv l wr) (hb : Below wr.heap.size wr w') : BothP W P b x k next v L ρ dv l w' := ⟨h.st.on hb, h.doc.below hb, h.nb, h.wb, h.abs, h.lw⟩
theorem BothP.prog (h : BothP W P b x k next v L ρ dv l wr) (hT : Za2 ρ wr P x next' v' L' w') : ∃ ρ', PlState W P x next' v' L' ρ' w' ∧ RefP (FreeP ρ' b) w' b x next dv l ∧ ρ' b = [] ∧ Later ρ ρ' wr ∧ Fp (Part ρ [0]) wr w' := by
 obtain ⟨ρ1, hl, _, hp', hF⟩ := hT
 have hbl := Zb h.doc.head
 have hst := h.st.step hl hp' hF
 have hsz := hF.size
 have hlat : Later ρ (fence ρ1 w') wr := fun j hj => (Zg ρ1 w' j (Nat.lt_of_lt_of_le hj hsz)).trans (hl j hj)
 have hnb : fence ρ1 w' b = [] := (hlat b hbl).trans h.nb
 refine ⟨fence ρ1 w', hst.fence, h.doc.move hF (fun ⟨t, e⟩ => by rw [h.nb] at e; simp at e) (fun j hj hg => ⟨⟨(hlat j hj).trans hg.1, hg.2⟩, fun ⟨t, e⟩ => by rw [hg.1] at e; simp at e⟩) (fun e => e.2 rfl) (fun j hj => ⟨Zw hj, by omega⟩), hnb, hlat, hF⟩
theorem Zl8 (h : PlState W P x next v L ρ wr) (hF : Fp (fun j => j = b) wr w') (hnb : ρ b = []) (hwb : W.heap.size ≤ b) : PlState W P x next v L ρ w' :=
 ⟨h.pool.boxes hF (fun j e => by rw [e]; exact hnb), h.below.trans (hF.below h.below.size (fun j hj e => by omega)), h.old⟩
end
section
variable {x : PX} {next : Int} {L : List PN} {k : Nat}
end
section
variable {x : PX} {next : Int} {L : List PN} {k : Nat}
end
theorem Znr (L : List PN) (y : PB) (next : Int) (row : TRow) (rest : List TRow) : (L.set y.i (tookN y next row rest)).map PN.abs = (L.map PN.abs).set y.i { y.n.abs with served := (y.n.cls.map PC.served).set y.k next, sh := (y.n.cls.map (fun c => (c.gv, c.rows))).set y.k ((tookT row rest).1, (tookT row rest).2) } :=
 Zn2 L y.i y.k y.n { y.c with served := next, gv := (tookT row rest).1, rows := (tookT row rest).2 }
theorem ZfI {L : List PN} {l : List QP} (hA : L.map PN.abs = l.map QP.abs) {p : QP} (hp : p ∈ l) : ∃ (i : Nat) (n : PN), L[i]? = some n ∧ n.abs = p.abs := by
 obtain ⟨i, hi⟩ := List.getElem?_of_mem hp
 have h := congrArg (fun z => z[i]?) hA
 simp only [List.getElem?_map, hi, Option.map_some] at h
 cases hn : L[i]? with
 | none => rw [hn] at h; cases h
 | some n =>
   rw [hn] at h
   exact ⟨i, n, hn, Option.some.inj h⟩
theorem Zip {n : PN} {p : QP} (h : n.abs = p.abs) {y : QS} (hy : y ∈ p.sh) : ∃ (k : Nat) (c : PC), n.cls[k]? = some c ∧ c.gv = y.gv ∧ c.rows = y.l.map Prod.fst := by
 obtain ⟨k, hk⟩ := List.getElem?_of_mem hy
 have h2 := congrArg (fun z => z.sh[k]?) h
 simp only [PN.abs, QP.abs, List.getElem?_map, hk, Option.map_some] at h2
 cases hc : n.cls[k]? with
 | none => rw [hc] at h2; cases h2
 | some c =>
   rw [hc] at h2
   have h3 := Option.some.inj h2
   simp only [QS.abs, Prod.mk.injEq] at h3
   exact ⟨k, c, hc, h3.1, h3.2⟩
theorem Zns {w : World} {v : Value} {l : List DV} (h : DRowsAt w v l) (hf : FewT (l.map Prod.fst)) : FewD l := by
 refine ⟨by have := hf.1; rwa [List.length_map] at this, fun p hp => ?_⟩
 have hi := (h.inv p hp).same
 have hx := hf.2 p.1 (List.mem_map_of_mem hp)
 rw [← hi, List.length_map] at hx
 exact ⟨hx.1, fun r hr => hx.2 r.1 (List.mem_map_of_mem hr)⟩
theorem ZjG {pre : List Int} {ρ : Roles} {w : World} {f : Nat} {q : Int} {gv : Bool} {rows : List FRow} (h : RingAt pre ρ w f q gv rows) : ∀ r ∈ rows, (r.its.map It.id).Nodup := by
 obtain ⟨sp, v, ns, qb, its, h, rfl⟩ := h
 intro r hr
 obtain ⟨n, hn, rfl⟩ := List.mem_map.1 hr
 exact (h.que n hn).good.once
theorem Ziq {pre : List Int} {ρ : Roles} {w : World} {f : Nat} {q : Int} {gv : Bool} {rows : List TRow} (h : ShareAt pre ρ w f q gv rows) : ∀ x ∈ rows, ∀ r ∈ x.rows, (r.its.map It.id).Nodup := by
 obtain ⟨sp, v, ns, fb, a, h, rfl⟩ := h
 intro x hx
 obtain ⟨n, hn, rfl⟩ := List.mem_map.1 hx
 exact ZjG (h.pre'.ring n hn)
def takeU (y : PB) (row : TRow) : Value := .tuple #[entV { entOf row with need := y.n.name, cls := y.k }, .bool true]
open Go.Sort
variable {G : Nat → Prop}
section
variable {ρ : Roles} {P : Nat} {x : PX} {next : Int} {v : Value} {L : List PN} {pl : ByteArray} {most : Int}
set_option maxRecDepth 100000 in
set_option maxHeartbeats 4000000 in
theorem Zoh (n1 : Int) (w : World) (hS : PoolAt ρ w P x next v L) (hn : wrap64 (next + 1) = n1 ∧ wrap64 (n1 - 1) = next) :
 Calls Tryz.prog 28 #[.pointer (some ⟨P, 0, none⟩)] w fun e w' => e = .returned (.int .i64 next) ∧ Fp (fun j => j = P) w w' ∧ w'.heap[P]? = some (ppO x n1 v) := by
 have HS := Lib.hid hS
 have c3 : w.cell? ⟨P, 3, none⟩ = some (.int .i64 next) := Za hS.head rfl
 have f3 : w.frozen? ⟨P, 3, none⟩ = false := Zd hS.head
 have e1 : wrap64 (next + 1) = n1 := hn.1
 have e2 : wrap64 (n1 - 1) = next := hn.2
 clear hS hn
 go_enter Tryz.func28, Tryz.ntmps28
 go_upto_region 2 with fail
 try rw [e1]
 obtain ⟨w1, hw1⟩ : ∃ w1 : World, w1 = w.setCell ⟨P, 3, none⟩ (.int .i64 n1) := ⟨_, rfl⟩
 rw [← hw1]
 have hh : w1.heap[P]? = some (ppO x n1 v) := by rw [hw1]; exact Ze HS.out.head
 have HH := Lib.hid hh
 have HF := Lib.hid (show Fp (fun j => j = P) w w1 by rw [hw1]; exact (Fp.refl (fun j => j = P) w).setCell (p := ⟨P, 3, none⟩) (fun _ => rfl) _)
 have d3 : w1.cell? ⟨P, 3, none⟩ = some (.int .i64 n1) := Za hh rfl
 clear hw1 hh c3 f3 e1
 go_wp2_with fail
 go_ret
 exact ⟨ZM e2, HF.out, HH.out⟩
def ZkZ (n1 : Int) (ρ : Roles) (w : World) (P : Nat) (x : PX) (next : Int) (v : Value) (L : List PN) (y : PB) (e : Ending) (w' : World) : Prop :=
 ∃ row rest ρ', e = .returned (.tuple #[entV { entOf row with need := y.n.name, cls := y.k }, .bool true]) ∧ PicksT x.q y.c.gv y.c.rows (row :: rest) ∧ Later ρ ρ' w ∧ ZA ρ' [0] w.heap.size ∧ PoolAt ρ' w' P x n1 v (L.set y.i (tookN y next row rest)) ∧ Fp (Part ρ [0]) w w'
set_option maxRecDepth 100000 in
set_option maxHeartbeats 8000000 in
theorem ZjH (n1 : Int) (y : PB) (w : World) (hr : Ready w) (hS : PoolAt ρ w P x next v L) (hO : PoolOk x L) (hp : pl.size ≤ 1048576) (hb : ZJ most pl L L.length = some y) (hnx : wrap64 (next + 1) = n1 ∧ wrap64 (n1 - 1) = next) :
 Calls Tryz.prog 14 #[.pointer (some ⟨P, 0, none⟩), .string pl, .int .i64 most] w (ZkZ n1 ρ w P x next v L y) := by
 have HS := Lib.hid (hS.later (Zg ρ w))
 have HR := Lib.hid hr
 have HO := Lib.hid hO
 have HP := Lib.hid hp
 have HB := Lib.hid hb
 have HNX := Lib.hid hnx
 have HPL := Lib.hid (Zb hS.head)
 have HY := Lib.hid (ZbF L.length y hb)
 have HNE := Lib.hid (ZlR (ZdS L.length y hb).2.1)
 clear hr hS hO hp hb hnx
 go_enter Tryz.func14, Tryz.ntmps14
 go_upto_region 5 with fail
 obtain ⟨w1, hw1⟩ : ∃ w1 : World, w1 = ((((w.alloc (.cells #[.string pl] 9)).alloc (.cells #[.int .i64 most] 3)).alloc (.cells (entC ent0) 25)).alloc (.cells #[.pointer none] 73)).alloc (.cells (entC ent0) 25) := ⟨_, rfl⟩
 rw [← Zez, ← hw1]
 obtain ⟨wb, hwb⟩ : ∃ k : Nat, k = w.heap.size + 1 + 1 + 1 + 1 := ⟨_, rfl⟩
 rw [← hwb]
 obtain ⟨bb, hbb⟩ : ∃ k : Nat, k = w.heap.size + 1 + 1 + 1 := ⟨_, rfl⟩
 rw [← hbb]
 obtain ⟨rb, hrb⟩ : ∃ k : Nat, k = w.heap.size + 1 + 1 := ⟨_, rfl⟩
 rw [← hrb]
 obtain ⟨mb, hmb⟩ : ∃ k : Nat, k = w.heap.size + 1 := ⟨_, rfl⟩
 rw [← hmb]
 obtain ⟨pb, hpb⟩ : ∃ k : Nat, k = w.heap.size := ⟨_, rfl⟩
 rw [← hpb]
 obtain ⟨hb1, ht1, hr1, hz1⟩ := ZdR hw1
 have HB1 := Lib.hid hb1
 have HT1 := Lib.hid (show TBox w1 mb bb pb wb most pl none by rw [hmb, hbb, hpb, hwb]; exact ht1)
 have HR1 := Lib.hid (show w1.heap[rb]? = some (.cells (entC ent0) 25 (0, 0)) by rw [hrb]; exact hr1)
 have HNB := Lib.hid (show (w.heap.size ≤ bb ∧ w.heap.size ≤ wb ∧ w.heap.size ≤ rb ∧ w.heap.size ≤ mb ∧ w.heap.size ≤ pb) ∧ (rb ≠ bb ∧ rb ≠ wb) from ⟨by omega, by omega⟩)
 have HF0 := Lib.hid (show fence ρ w bb = [] ∧ fence ρ w wb = [] from ⟨Zw (by omega), Zw (by omega)⟩)
 have HRD := Lib.hid (show ∀ w', Fp (fun j => j = bb ∨ j = wb) w1 w' → Ready w' from fun w' hF => HR.out.below (hb1.trans (hF.below hb1.size (fun j hj e => by omega))))
 clear hw1 hb1 ht1 hr1 hz1 hwb hbb hrb hmb hpb
 go_wp2_with fail
 refine (Zey w1 HRD.out (HS.out.below HB1.out) HO.out HT1.out HF0.out.1 HF0.out.2 HP.out).mono ?_
 rintro e w2 ⟨rfl, ht2, hf2⟩
 rw [HB.out] at ht2
 have HB2 := Lib.hid (HB1.out.trans (hf2.below HB1.out.size (fun j hj e => by have := HNB.out.1; omega)))
 have hr2 := hf2.heap HR1.out (fun e => e.elim HNB.out.2.1 HNB.out.2.2)
 have hS2 := (HS.out.below HB1.out).boxes hf2 (fun j e => e.elim (fun e => e ▸ HF0.out.1) (fun e => e ▸ HF0.out.2))
 have b0 : w2.cell? ⟨bb, 0, none⟩ = some (.pointer (some ⟨y.c.blk, 0, none⟩)) := Za ht2.bx rfl
 have hN2 := hS2.need y.i y.n HY.out.1
 have hC2 := hN2.cls y.k y.c HY.out.2
 have k1 : w2.cell? ⟨y.c.blk, 1, none⟩ = some (.pointer (some ⟨y.c.f, 0, none⟩)) := Za hC2.blk rfl
 have HRB := Lib.hid hr2
 have HT2 := Lib.hid ht2
 have HS2 := Lib.hid hS2
 have HC2 := Lib.hid hC2
 clear hf2 ht2 hr2 hS2 hN2 hC2
 go_wp2_with fail
 refine (Zdt (pre := [0, 6, (y.c.blk : Int)]) (by simp) w2 HC2.out.share HNE.out).mono ?_
 rintro e w3 ⟨row, rest, ρ3, rfl, hp3, hl3, hn3, hR3, hF3⟩
 obtain ⟨E9, hE9⟩ : ∃ E9, E9 = entOf row := ⟨_, rfl⟩
 rw [← hE9]
 have HE9 := Lib.hid hE9
 have HP3 := Lib.hid hp3
 have HL3 := Lib.hid hl3
 have HN3 := Lib.hid hn3
 have HF3 := Lib.hid hF3
 have HS3 := Lib.hid ((HS2.out.turn HY.out.1 HY.out.2 hl3 hR3 hF3).later (Zg ρ3 w3))
 have hno : ∀ j, w.heap.size ≤ j → ¬ Part (fence ρ w) [0, 6, (y.c.blk : Int)] j := fun j hj => ZbZ (by simp) hj
 have HT3 := Lib.hid (HT2.out.fp hF3 (hno mb HNB.out.1.2.2.2.1) (hno bb HNB.out.1.1) (hno pb HNB.out.1.2.2.2.2) (hno wb HNB.out.1.2.1))
 have HRB3 := Lib.hid (hF3.heap HRB.out (hno rb HNB.out.1.2.2.1))
 clear hp3 hl3 hn3 hR3 hF3 hE9 hno b0 k1
 go_upto_region 9 with (refine Zaq rfl 25 _ _ rfl w3.heap.size rfl (entC E9) rfl rfl (ZZ E9) rfl (ZaJ E9) ?_)
 obtain ⟨w4, hw4⟩ : ∃ w4 : World, w4 = w3.alloc (.cells (entC E9) 25) := ⟨_, rfl⟩
 obtain ⟨eb, heb⟩ : ∃ eb : Nat, eb = w3.heap.size := ⟨_, rfl⟩
 rw [← hw4, ← heb]
 obtain ⟨c', hc'⟩ : ∃ c' : PC, c' = { y.c with gv := (tookT row rest).1, rows := (tookT row rest).2 } := ⟨_, rfl⟩
 obtain ⟨n', hn'⟩ : ∃ n' : PN, n' = { y.n with cls := y.n.cls.set y.k c' } := ⟨_, rfl⟩
 have HS4 := Lib.hid (show PoolAt (fence ρ3 w3) w4 P x next v (L.set y.i n') by rw [hw4, hn', hc']; exact HS3.out.below box_below)
 have HB4 := Lib.hid (show Below w3.heap.size w3 w4 by rw [hw4]; exact box_below)
 have HT4 := Lib.hid (HT3.out.below HB4.out)
 have HRB4 := Lib.hid ((HB4.out.block _ (Zb HRB3.out)).trans HRB3.out)
 have HE4 := Lib.hid (show w4.heap[eb]? = some (.cells (entC E9) 25 (0, 0)) by rw [hw4, heb]; exact Zf)
 have HEB := Lib.hid (show w3.heap.size ≤ eb by rw [heb]; exact Nat.le_refl _)
 have hcb : c'.blk = y.c.blk := by rw [hc']
 have HIX := Lib.hid (show (L.set y.i n')[y.i]? = some n' ∧ n'.cls[y.k]? = some c' from ⟨List.getElem?_set_self (List.getElem?_eq_some_iff.1 HY.out.1).1, by rw [hn']; exact List.getElem?_set_self (List.getElem?_eq_some_iff.1 HY.out.2).1⟩)
 have HNC := Lib.hid (And.intro hc' hn')
 have hC4 := (HS4.out.need y.i n' HIX.out.1).cls y.k c' HIX.out.2
 have hcP : y.c.blk ≠ P := fun e => by
  have h1 := hC4.role
  rw [hcb, e, HS4.out.role] at h1
  simp at h1
 have hbP : bb ≠ P := fun e => by have h1 := HNB.out.1.1; have h2 := HPL.out; omega
 have hsv : c'.served = y.c.served := by rw [hc']
 have HCP := Lib.hid (And.intro hcP hbP)
 have HCB := Lib.hid hcb
 have b4 : w4.cell? ⟨bb, 0, none⟩ = some (.pointer (some ⟨y.c.blk, 0, none⟩)) := Za HT4.out.bx rfl
 have HK4 := Lib.hid (show w4.heap[y.c.blk]? = some (pcO c') by rw [← hcb]; exact hC4.blk)
 have HSD := Lib.hid (HS4.out.below (w' := w4.drew) ⟨rfl, rfl, rfl, Nat.le_refl _, fun _ _ => rfl⟩)
 clear hw4 heb hc' hn' hcb hC4 hcP hbP hsv
 have j1 : ¬ bb = y.c.blk := fun e => by
  have h1 := HC2.out.role
  rw [← e, HF0.out.1] at h1
  simp at h1
 have j2 : ¬ y.c.blk = bb := fun e => j1 e.symm
 have HBC := Lib.hid j1
 go_region_held3 (fun w' => w'.cell? ⟨bb, 0, none⟩ = some (.pointer (some ⟨y.c.blk, 0, none⟩)))
  (first | go_keep | exact hF5.cell (w := w4.drew) b4 HCP.out.2 | exact ((Fp.refl (fun j => j = y.c.blk) w5).setCell (p := ⟨y.c.blk, 0, none⟩) (fun _ => rfl) _).cell (hF5.cell (w := w4.drew) b4 HCP.out.2) HBC.out)
  (first | (go_at_call 28; refine (Zoh n1 w4.drew HSD.out HNX.out).mono ?_; rintro e w5 ⟨rfl, hF5, hh5⟩; (have hk5 := hF5.heap (w := w4.drew) HK4.out HCP.out.1); (have c5 : w5.cell? ⟨y.c.blk, 0, none⟩ = some (.int .i64 c'.served) := Za hk5 rfl); (have g5 : w5.frozen? ⟨y.c.blk, 0, none⟩ = false := Zd hk5)))
 obtain ⟨w6, hw6⟩ : ∃ w6 : World, w6 = w5.setCell ⟨y.c.blk, 0, none⟩ (.int .i64 next) := ⟨_, rfl⟩
 rw [← hw6]
 have hF6 : Fp (fun j => j = y.c.blk) w5 w6 := by rw [hw6]; exact (Fp.refl (fun j => j = y.c.blk) w5).setCell (p := ⟨y.c.blk, 0, none⟩) (fun _ => rfl) _
 have hk6 : w6.heap[y.c.blk]? = some (pcO { c' with served := next }) := by rw [hw6]; exact Ze hk5
 have hF46 : Fp (fun j => j = P ∨ j = y.c.blk) w4 w6 := (((Fp.refl (fun j => j = P ∨ j = y.c.blk) w4).drew).trans hF5 (fun _ _ e => .inl e)).trans hF6 (fun _ _ e => .inr e)
 have hS6 : PoolAt (fence ρ3 w3) w6 P x n1 v (L.set y.i (tookN y next row rest)) := by
  have h := (HSD.out.head_set hF5 hh5).served HIX.out.1 HIX.out.2 (t := next) (by rw [HCB.out]; exact hF6) (by rw [HCB.out]; exact hk6)
  rw [List.set_set, HNC.out.2, HNC.out.1] at h
  simp only [List.set_set] at h
  exact h
 have hbox : ∀ j, w.heap.size ≤ j → ¬ (j = P ∨ j = y.c.blk) := fun j hj e => by
  rcases e with e | e
  ·have := HPL.out
   omega
  ·have h1 := HC2.out.role
   rw [← e, Zw hj] at h1
   simp at h1
 have hz3 : w.heap.size ≤ w3.heap.size := Nat.le_trans HB2.out.size HF3.out.size
 have HS6 := Lib.hid hS6
 have HF46 := Lib.hid hF46
 have HT6 := Lib.hid (HT4.out.fp hF46 (hbox mb HNB.out.1.2.2.2.1) (hbox bb HNB.out.1.1) (hbox pb HNB.out.1.2.2.2.2) (hbox wb HNB.out.1.2.1))
 have HRB6 := Lib.hid (hF46.heap HRB4.out (hbox rb HNB.out.1.2.2.1))
 have HE6 := Lib.hid (hF46.heap HE4.out (hbox eb (Nat.le_trans hz3 HEB.out)))
 have HZ3 := Lib.hid hz3
 have hew : ¬ eb = wb := fun e => by have h1 := Zb HT3.out.wh; have h2 := HEB.out; omega
 have her : ¬ eb = rb := fun e => by have h1 := Zb HRB3.out; have h2 := HEB.out; omega
 have HER := Lib.hid her
 have hwe : ¬ wb = eb := fun e => hew e.symm
 clear hw6 hF6 hk6 hF46 hS6 hbox hz3 hh5 hF5 hk5 c5 g5 b4 j1 j2 her
 have e0 : w6.cell? ⟨wb, 0, none⟩ = some (.string y.n.name) := Za HT6.out.wh rfl
 have e1 : w6.cell? ⟨wb, 1, none⟩ = some (.int .i64 y.k) := Za HT6.out.wh rfl
 have d0 : w6.cell? ⟨eb, 0, none⟩ = some (.string E9.need) := Za HE6.out rfl
 have d1 : w6.cell? ⟨eb, 1, none⟩ = some (.int .i64 E9.cls) := Za HE6.out rfl
 have g0 : w6.frozen? ⟨eb, 0, none⟩ = false := Zd HE6.out
 have g1 : w6.frozen? ⟨eb, 1, none⟩ = false := Zd HE6.out
 go_upto_region 10 with fail
 go_region
 obtain ⟨w7, hw7⟩ : ∃ w7 : World, w7 = ((w6.setCell ⟨eb, 0, none⟩ (.string y.n.name)).setCell ⟨eb, 1, none⟩ (.int .i64 y.k)).drew := ⟨_, rfl⟩
 rw [← hw7]
 obtain ⟨E10, hE10⟩ : ∃ E10 : Ent, E10 = { E9 with need := y.n.name, cls := y.k } := ⟨_, rfl⟩
 have hF7 : Fp (fun j => j = eb) w6 w7 := by rw [hw7]; exact (((Fp.refl (fun j => j = eb) w6).setCell (p := ⟨eb, 0, none⟩) (fun _ => rfl) _).setCell (p := ⟨eb, 1, none⟩) (fun _ => rfl) _).drew
 have hE7 : w7.heap[eb]? = some (.cells (entC E10) 25 (0, 0)) := by
  have h1 := Ze (i := 1) (v := .int .i64 y.k) (Ze (i := 0) (v := .string y.n.name) HE6.out)
  unfold entC at h1
  simp only [List.setIfInBounds_toArray, List.set_cons_zero, List.set_cons_succ] at h1
  rw [hw7, show ∀ u : World, u.drew.heap = u.heap from fun _ => rfl, h1, hE10]
  rfl
 have HF7 := Lib.hid hF7
 have HE7 := Lib.hid hE7
 have HRB7 := Lib.hid (hF7.heap HRB6.out (fun e => HER.out e.symm))
 have HE10 := Lib.hid hE10
 clear hw7 hF7 hE7 hE10 e0 e1 d0 d1 g0 g1 hew hwe
 go_wp2_with (first
  | (refine Zat (cs := entC E10) 25 HE7.out Tryz.underlying25 rfl (ZZ E10) rfl _ rfl rfl ?_)
  | (refine wpList_store_row rfl 25 _ _ rfl rb (entC E10) rfl rfl 25 _ HRB7.out (ZZ E10) rfl (ZaJ E10) ?_))
 refine bodyPost_ret (v := .tuple #[.agg (entC E10), .bool true]) (ZL Tryz.results14 rfl rfl (setRow_heap _ rb _ _ _ _ HRB7.out) Tryz.underlying25 rfl (ZZ E10)) rfl ?_
 have z12 := HB2.out.size
 have z23 := HF3.out.size
 have hrb3 : fence ρ3 w3 rb = [] := by
  have h1 := Zb HRB3.out
  have h2 := Zb HRB.out
  rw [Zg ρ3 w3 rb h1, HL3.out rb h2]
  exact Zw HNB.out.1.2.2.1
 have hFr : Fp (fun j => j = rb) w7 (w7.setRow rb (entC E10)) := (Fp.refl _ _).setRow (fun _ => rfl)
 refine ⟨row, rest, fence ρ3 w3, by rw [HE10.out, HE9.out]; rfl, HP3.out, fun k hk => ?_, fun k hk => ?_, (HS6.out.boxes HF7.out (fun j e => by rw [e]; exact Zw HEB.out)).boxes hFr (fun j e => by rw [e]; exact hrb3), ?_⟩
 ·rw [Zg ρ3 w3 k (by omega), HL3.out k (by omega), Zg ρ w k hk]
 ·rcases Nat.lt_or_ge k w3.heap.size with h3 | h3
  ·have e3 : fence ρ3 w3 k = ρ3 k := Zg ρ3 w3 k h3
   rcases Nat.lt_or_ge k w2.heap.size with h2 | h2
   ·exact .inl (by rw [e3, HL3.out k h2]; exact Zw hk)
   ·rcases HN3.out k h2 with h4 | ⟨t, h4⟩
    ·exact .inl (e3.trans h4)
    ·exact .inr ⟨_, by rw [e3, h4]; exact List.append_assoc [0] [6, (y.c.blk : Int)] t⟩
  ·exact .inl (Zw h3)
 ·have hin : ∀ {k : Nat} {r : List Int}, k < w.heap.size → fence ρ w k = 0 :: r → Part ρ [0] k := fun {k r} hk e => ⟨r, by rw [← Zg ρ w k hk, e]; rfl⟩
  refine (((((Fp.of_below (S := Part ρ [0]) HB2.out).trans HF3.out (fun k hk ⟨t, e⟩ => hin hk (by rw [e]; rfl))).then_below HB4.out).trans HF46.out (fun k hk e => ?_)).trans HF7.out (fun k hk e => ?_)).trans hFr (fun k hk e => ?_)
  ·rcases e with e | e
   ·exact hin hk (by rw [e]; exact HS.out.role)
   ·exact hin hk (by rw [e]; exact HC2.out.role)
  ·have := HEB.out
   omega
  ·have := HNB.out.1
   omega
end
def Zk0 (n1 : Int) (G : Nat → Prop) (b : Nat) (x : PX) (next : Int) (l : List QP) (y : PB) (w : World) (e : Ending) (w' : World) : Prop :=
 ∃ row rest, e = .returned (.tuple #[entV { entOf row with need := y.n.name, cls := y.k }, .bool true]) ∧ PicksT x.q y.c.gv y.c.rows (row :: rest) ∧ Fp (fun j => j = b) w w' ∧
  ∃ v' l', RefP G w' b x n1 v' l' ∧ l'.map QP.abs = (l.map QP.abs).set y.i { y.n.abs with served := (y.n.cls.map PC.served).set y.k next, sh := (y.n.cls.map (fun c => (c.gv, c.rows))).set y.k ((tookT row rest).1, (tookT row rest).2) }
def Zgo (n1 : Int) (G : Nat → Prop) (b : Nat) (x : PX) (next : Int) (l : List QP) (o : Option PB) (w : World) (e : Ending) (w' : World) : Prop := match o with
 | none => e = .returned (.tuple #[entV ent0, .bool false]) ∧ Below w.heap.size w w'
 | some y => Zk0 n1 G b x next l y w e w'
set_option maxRecDepth 100000 in
set_option maxHeartbeats 16000000 in
theorem Znt (n1 : Int) (o : Option PB) (pl : ByteArray) (most : Int) (b : Nat) (x : PX) (next : Int) (v : Value) (l : List QP) (L : List PN) (w : World) (h : RefP G w b x next v l) (hA : L.map PN.abs = l.map QP.abs) (ho : ZJ most pl L L.length = o) (hO : PoolOk x L) (hpl : pl.size ≤ 1048576) (hcl : x.classes ≤ 1000) (hu : ∀ p ∈ l, 0 < p.uses) (hnx : wrap64 (next + 1) = n1) (hq : 1 ≤ x.q ∧ x.q ≤ 64)
 (hfd : ∀ p ∈ l, ∀ y ∈ p.sh, FewD y.l) (hok : ∀ p ∈ l, ∀ y ∈ p.sh, TRowsOk y.gv (y.l.map Prod.fst) ∧ ∀ t ∈ y.l.map Prod.fst, ∀ r ∈ t.rows, (r.its.map It.id).Nodup) :
 Calls Tryz.prog 44 #[.pointer (some ⟨b, 0, none⟩), .string pl, .int .i64 most] w (Zgo n1 G b x next l o w) := by
 have HR := Lib.hid h
 have HA := Lib.hid hA
 have HOO := Lib.hid ho
 have HO := Lib.hid hO
 have HP := Lib.hid (And.intro hpl (And.intro hcl (And.intro hnx hq)))
 have HU := Lib.hid hu
 have HFD := Lib.hid hfd
 have HOK := Lib.hid hok
 have HLL := Lib.hid (ZgA hA)
 obtain ⟨a, cap, hv, -⟩ := h.rows.form
 have HV := Lib.hid hv
 clear h hA ho hO hpl hcl hu hnx hq hfd hok hv
 go_enter Tryz.func44, Tryz.ntmps44
 go_upto_region 1 with fail
 obtain ⟨w1, hw1⟩ : ∃ w1 : World, w1 = w.alloc (.cells (entC ent0) 25) := ⟨_, rfl⟩
 obtain ⟨eb, heb⟩ : ∃ eb : Nat, eb = w.heap.size := ⟨_, rfl⟩
 rw [Zez] at hw1
 rw [← hw1, ← heb]
 have HB1 := Lib.hid (show Below w.heap.size w w1 by rw [hw1]; exact box_below)
 have HE1 := Lib.hid (show w1.heap[eb]? = some (.cells (entC ent0) 25 (0, 0)) by rw [hw1, heb, Zez]; exact Zf)
 have HEB := Lib.hid (show w.heap.size ≤ eb by omega)
 have HR1 := Lib.hid (HR.out.below HB1.out)
 clear hw1 heb
 go_wp2_with fail
 go_loopg [8, 9, 10] l.length (fun g av ov iv wr => ∃ m : Nat, g = l.length - m ∧ av = .int .i64 (atI (ZJ most pl L m)) ∧ ov = .int .i64 (ofI (ZJ most pl L m)) ∧ iv = .int .i64 m ∧ m ≤ l.length ∧ Below w1.heap.size w1 wr)
 case atStart => exact ⟨0, rfl, rfl, rfl, rfl, Nat.zero_le _, Below.refl _ _⟩
 case round =>
  obtain ⟨m, hg, rfl, rfl, rfl, hm, hb⟩ := hrel
  have HG := Lib.hid hg
  have HB := Lib.hid hb
  have hR := HR1.out.below hb
  have b4 : wr.cell? ⟨b, 4, none⟩ = some (.slice a l.length cap) := by rw [← HV.out]; exact Za hR.head rfl
  clear hg hb hR
  by_cases hlt : m < l.length
  ·have hml : (m : Int) < (l.length : Int) := by omega
   obtain ⟨n, hn⟩ : ∃ n, L[m]? = some n := ⟨_, List.getElem?_eq_getElem (by have := HLL.out; omega)⟩
   obtain ⟨p, hp, hnp⟩ := ZcZ HA.out hn
   have HN := Lib.hid hn
   have HPP := Lib.hid hp
   have HNP := Lib.hid hnp
   have HL := Lib.hid (HR.out.lens p (List.mem_of_getElem? hp))
   have HBS := Lib.hid (ZbF (most := most) (pl := pl) (L := L) m)
   clear hn hp hnp
   go_upto_region 5 with fail
   clear b4
   go_wp2_with fail
   generalize hB0 : ZJ most pl L m = B0 at HBS ⊢
   have HB0 := Lib.hid hB0
   clear hB0
   go_loopg [8, 9, 11] x.classes (fun g av ov kv w' => ∃ k : Nat, g = x.classes - k ∧ av = .int .i64 (atI (ZP most pl m n B0 k)) ∧ ov = .int .i64 (ofI (ZP most pl m n B0 k)) ∧ kv = .int .i64 k ∧ k ≤ x.classes ∧ Below w1.heap.size w1 w')
   case atStart => exact ⟨0, rfl, rfl, rfl, rfl, Nat.zero_le _, HB.out⟩
   case round =>
    obtain ⟨k, hg, rfl, rfl, rfl, hk, hb⟩ := hrel
    have HG2 := Lib.hid hg
    have HB2 := Lib.hid hb
    have hR := HR1.out.below hb
    have c1 : wr.cell? ⟨b, 1, none⟩ = some (.int .i64 x.classes) := Za hR.head rfl
    clear hg hb
    by_cases hkc : k < x.classes ∧ (k : Int) ≤ most
    ·obtain ⟨hkc, hkm⟩ := hkc
     have hkc' : (k : Int) < (x.classes : Int) := by omega
     obtain ⟨c, hc⟩ : ∃ c, n.cls[k]? = some c := ⟨_, List.getElem?_eq_getElem (by have := (Zbk HNP.out).1; have := HL.out; omega)⟩
     obtain ⟨hsv, y, hy, hgv, hrows⟩ := ZeG HNP.out hc
     have HSUC := Lib.hid (Zbv (most := most) (pl := pl) (b := B0) (i := m) hc)
     have HIN := Lib.hid (Zc8 (most := most) (pl := pl) HBS.out HN.out k)
     have hpm := List.mem_of_getElem? HPP.out
     have hym := List.mem_of_getElem? hy
     obtain ⟨g, off, cp, hv, _, hc1⟩ := hR.rows.at ZaW (by decide) HPP.out
     have hQ := hR.inv p hpm
     obtain ⟨g2, off2, cap2, hv2, _, hc2⟩ := hQ.hv.at (ZbH x.q) (by decide) hy
     obtain ⟨g3, off3, cap3, hv3, _, hc3⟩ := hQ.sv.at ZaP (by decide) hsv
     obtain ⟨ya, yc, hyv, -⟩ := (hQ.inv y hym).form
     obtain ⟨T, hT⟩ : ∃ T : Nat, T = totT (y.l.map Prod.fst) := ⟨_, rfl⟩
     have hTb : T ≤ 1000000000 := by
      have := HO.out.tot n (List.mem_of_getElem? HN.out) c (List.mem_of_getElem? hc)
      rw [hrows] at this
      omega
     obtain ⟨M, hM⟩ : ∃ M : Bool, M = Z0 pl p.name := ⟨_, rfl⟩
     have HFIT := Lib.hid (show ∀ o, fitB most pl o ⟨m, n, k, c⟩ = (decide (0 < T) && Za7 o c && M) from fun o => by
      unfold fitB
      simp only
      rw [decide_eq_true hkm, hrows, ← hT, (Zbk HNP.out).2.2, ← hM, Bool.true_and])
     have d0 := cell_regrown (show wr.cell? ⟨b, 4, none⟩ = some (.slice (some ⟨g, off, none⟩) l.length cp) by rw [← hv]; exact Za hR.head rfl)
     have d1 := cell_regrown (show wr.cell? ⟨g, off + m * 4, none⟩ = some (.string p.name) from hc1 0 _ rfl)
     have d2 := cell_regrown (show wr.cell? ⟨g, off + m * 4 + 2, none⟩ = some (.slice (some ⟨g3, off3, none⟩) p.served.length cap3) by rw [← hv3]; exact hc1 2 _ rfl)
     have d3 := cell_regrown (show wr.cell? ⟨g, off + m * 4 + 3, none⟩ = some (.slice (some ⟨g2, off2, none⟩) p.sh.length cap2) by rw [← hv2]; exact hc1 3 _ rfl)
     have s0 := cell_regrown (show wr.cell? ⟨g2, off2 + k * 3, none⟩ = some (.int .i64 x.q) from hc2 0 _ rfl)
     have s1 := cell_regrown (show wr.cell? ⟨g2, off2 + k * 3 + 1, none⟩ = some (.slice ya y.l.length yc) by rw [← hyv]; exact hc2 1 _ rfl)
     have s2 := cell_regrown (show wr.cell? ⟨g2, off2 + k * 3 + 2, none⟩ = some (.bool y.gv) from hc2 2 _ rfl)
     have z1 := cell_regrown (show wr.cell? ⟨g3, off3 + k, none⟩ = some (.int .i64 c.served) by have := hc3 0 _ rfl; simpa using this)
     have hlen : ∀ (d : Nat) (os : Array Obj), Calls Tryz.prog 49 #[.agg #[.int .i64 x.q, .slice ya y.l.length yc, .bool y.gv]] (grow (redrawn wr d) os) fun e w' => e = .returned (.int .i64 T) ∧ Below (grow (redrawn wr d) os).heap.size (grow (redrawn wr d) os) w' := fun d os => by
      have h := ZdX x.q y.gv y.v y.l _ ((hQ.inv y hym).below (below_regrown wr d os)) (HFD.out p hpm y hym) (by omega)
      rw [hyv, ← hT] at h
      exact h
     have hmat : ∀ (d : Nat) (os : Array Obj), Calls Tryz.prog 15 #[.string pl, .string p.name] (grow (redrawn wr d) os) fun e w' => e = .returned (.bool M) ∧ Below (grow (redrawn wr d) os).heap.size (grow (redrawn wr d) os) w' := fun d os => by
      have h := ZkI pl p.name (grow (redrawn wr d) os) HP.out.1 (by rw [← (Zbk HNP.out).2.2]; exact HO.out.name n (List.mem_of_getElem? HN.out))
      rw [← hM] at h
      exact h
     have HLEN := Lib.hid hlen
     have HMAT := Lib.hid hmat
     have hkl : (k : Int) < (p.sh.length : Int) := by have := HL.out; omega
     have hks : (k : Int) < (p.served.length : Int) := by have := HL.out; omega
     generalize hBk : ZP most pl m n B0 k = B at HSUC HIN ⊢
     have HBK := Lib.hid hBk
     have HZ := Lib.hid (show ∀ z, B = some z → ∃ pz gz oz cz, (z.i : Int) < (l.length : Int) ∧ (z.k : Int) < ((pz : QP).served.length : Int) ∧ (∀ d os, (grow (redrawn wr d) os).cell? ⟨g, off + z.i * 4 + 2, none⟩ = some (.slice (some ⟨gz, oz, none⟩) pz.served.length cz)) ∧ (∀ d os, (grow (redrawn wr d) os).cell? ⟨gz, oz + z.k, none⟩ = some (.int .i64 z.c.served)) from fun z hz => by
      obtain ⟨hz1, hz2⟩ := HIN.out z hz
      obtain ⟨pz, hpz, hnz⟩ := ZcZ HA.out hz1
      obtain ⟨hsz, _⟩ := ZeG hnz hz2
      obtain ⟨g', off', cp', hv', _, hcz⟩ := hR.rows.at ZaW (by decide) hpz
      rw [hv] at hv'
      cases hv'
      obtain ⟨gz, oz, cz, hvz, _, hcz2⟩ := (hR.inv pz (List.mem_of_getElem? hpz)).sv.at ZaP (by decide) hsz
      refine ⟨pz, gz, oz, cz, by have := (List.getElem?_eq_some_iff.1 hpz).1; omega, by have := (List.getElem?_eq_some_iff.1 hsz).1; omega, cell_regrown (by rw [← hvz]; exact hcz 2 _ rfl), cell_regrown (by have := hcz2 0 _ rfl; simpa using this)⟩)
     clear hc hsv hy hgv hrows hpm hym hv hc1 hQ hv2 hc2 hv3 hc3 hyv hT hTb hM hR hlen hmat hBk
     go_upto_region 8 with fail
     clear c1
     go_cut [90] (fun cv wx => cv = .bool (decide (0 < T) && Za7 B c && M) ∧ Below wr.heap.size wr wx)
     case first =>
      rcases Nat.eq_zero_or_pos T with hT0 | hT0
      ·have k1 : decide (0 < T) = false := decide_eq_false (by omega)
       refine wp_region_quiet_below (by kernel_rfl) (by kernel_rfl) ?_
       repeat (go_big_quiet_step (first | exact Calls.regrown_of (HLEN.out _ _) | exact Calls.regrown_of (HMAT.out _ _)))
       refine wpQuiet_nil ?_
       rintro _ ⟨⟨dq, osq⟩, rfl⟩
       go_wp2_with fail
       go_meet
       case rel => exact ⟨by simp [k1], below_regrown wr dq osq⟩
      ·have k1 : decide (0 < T) = true := decide_eq_true hT0
       rcases M with _ | _
       ·clear HZ HFIT
        refine wp_region_quiet_below (by kernel_rfl) (by kernel_rfl) ?_
        repeat (go_big_quiet_step (first | exact Calls.regrown_of (HLEN.out _ _) | exact Calls.regrown_of (HMAT.out _ _)))
        refine wpQuiet_nil ?_
        rintro _ ⟨⟨dq, osq⟩, rfl⟩
        go_wp2_with fail
        go_meet
        case rel => exact ⟨by simp, below_regrown wr dq osq⟩
       ·rcases B with _ | z
        ·rw [show atI none = (-1 : Int) from rfl, show ofI none = (0 : Int) from rfl]
         clear HZ HFIT
         refine wp_region_quiet_below (by kernel_rfl) (by kernel_rfl) ?_
         repeat (go_big_quiet_step (first | exact Calls.regrown_of (HLEN.out _ _) | exact Calls.regrown_of (HMAT.out _ _)))
         refine wpQuiet_nil ?_
         rintro _ ⟨⟨dq, osq⟩, rfl⟩
         go_wp2_with fail
         go_meet
         case rel => exact ⟨by simp [Za7, hT0], below_regrown wr dq osq⟩
        ·obtain ⟨pz, gz, oz, cz, zl, zs, e2, e0⟩ := HZ.out z rfl
         have k3 : decide ((z.i : Int) < 0) = false := decide_eq_false (by omega)
         clear HZ HFIT
         rw [show atI (some z) = (z.i : Int) from rfl, show ofI (some z) = (z.k : Int) from rfl]
         by_cases hs : c.served < z.c.served
         ·have k4 : decide (c.served < z.c.served) = true := decide_eq_true hs
          refine wp_region_quiet_below (by kernel_rfl) (by kernel_rfl) ?_
          repeat (go_big_quiet_step (first | exact Calls.regrown_of (HLEN.out _ _) | exact Calls.regrown_of (HMAT.out _ _)))
          refine wpQuiet_nil ?_
          rintro _ ⟨⟨dq, osq⟩, rfl⟩
          go_wp2_with fail
          go_meet
          case rel => exact ⟨by simp [Za7, hT0, hs], below_regrown wr dq osq⟩
         ·have k4 : decide (c.served < z.c.served) = false := decide_eq_false hs
          refine wp_region_quiet_below (by kernel_rfl) (by kernel_rfl) ?_
          repeat (go_big_quiet_step (first | exact Calls.regrown_of (HLEN.out _ _) | exact Calls.regrown_of (HMAT.out _ _)))
          refine wpQuiet_nil ?_
          rintro _ ⟨⟨dq, osq⟩, rfl⟩
          go_wp2_with fail
          go_meet
          case rel => exact ⟨by simp [Za7, hs], below_regrown wr dq osq⟩
     case rest =>
      obtain ⟨rfl, hbc⟩ := hcut
      have HB3 := Lib.hid (HB2.out.trans (hbc.mono HB2.out.size))
      have HF := HFIT.out B
      clear hbc d0 d1 d2 d3 s0 s1 s2 z1 HZ HLEN HMAT
      generalize (decide (0 < T) && Za7 B c && M) = fit at HF ⊢
      have HSU : ZP most pl m n B0 (k + 1) = if fit = true then some ⟨m, n, k, c⟩ else B := by
       rw [HSUC.out]
       unfold stepB
       rw [HF]
      have HS2 := Lib.hid HSU
      clear HSU HF
      have hcl := HP.out.2.1
      rcases fit with _ | _
      ·go_wp2_with fail
       go_roundg (x.classes - (k + 1))
       case rel => exact ⟨k + 1, rfl, by rw [HS2.out]; rfl, by rw [HS2.out]; rfl, by go_num, by omega, HB3.out⟩
       case measure => have := HG2.out; omega
      ·go_wp2_with fail
       go_roundg (x.classes - (k + 1))
       case rel => exact ⟨k + 1, rfl, by rw [HS2.out]; rfl, by rw [HS2.out]; rfl, by go_num, by omega, HB3.out⟩
       case measure => have := HG2.out; omega
    ·have HEND := Lib.hid (show ZP most pl m n B0 k = ZJ most pl L (m + 1) from by
      rw [ZbS HN.out, HB0.out, (Zbk HNP.out).1, HL.out.1]
      by_cases h1 : k < x.classes
      ·have h2 := Zfx (most := most) (pl := pl) (i := m) (k := k) (n := n) (b := B0) (by omega) (x.classes - k)
       rw [show k + (x.classes - k) = x.classes by omega] at h2
       exact h2.symm
      ·rw [show k = x.classes by omega])
     rw [HEND.out]
     have hcase : ¬ (k : Int) < (x.classes : Int) ∨ ((k : Int) < (x.classes : Int) ∧ ¬ (k : Int) ≤ most) := by omega
     have hfew := HR.out.few
     rcases hcase with h1 | ⟨h1, h2⟩
     all_goals
      clear hkc
      go_wp2_with fail
      go_roundg (l.length - (m + 1))
      case rel => exact ⟨m + 1, rfl, rfl, rfl, by go_num, by omega, HB2.out⟩
      case measure => have := HG.out; omega
  ·obtain rfl : m = l.length := by omega
   have hO0 : ZJ most pl L l.length = o := by rw [← HLL.out]; exact HOO.out
   have HBT := Lib.hid (show InB L o from hO0 ▸ ZbF (most := most) (pl := pl) (L := L) l.length)
   have HFT := Lib.hid (show ∀ z, o = some z → 0 < totT z.c.rows from fun z hz => (ZdS (most := most) (pl := pl) (L := L) l.length z (hO0.trans hz)).2.1)
   rw [hO0]
   clear hO0
   have HE := Lib.hid ((HB.out.block eb (Zb HE1.out)).trans HE1.out)
   have HBW := Lib.hid (HB1.out.trans (HB.out.mono HB1.out.size))
   clear HOO
   rcases o with _ | z
   ·rw [show atI none = (-1 : Int) from rfl]
    go_wp2_with (refine wpList_store_row rfl 25 _ _ rfl eb #[.string ⟨#[]⟩, .int .i64 0, .int .i64 0, .int .i64 0, .int .i64 0, .int .i64 0, .int .i64 0, .int .i64 0] rfl rfl 25 _ HE.out (ZZ ent0) rfl (ZaJ ent0) ?_)
    refine bodyPost_ret (v := .tuple #[.agg #[.string ⟨#[]⟩, .int .i64 0, .int .i64 0, .int .i64 0, .int .i64 0, .int .i64 0, .int .i64 0, .int .i64 0], .bool false]) (ZL Tryz.results44 rfl rfl (setRow_heap _ eb _ _ _ _ HE.out) Tryz.underlying25 rfl (ZZ ent0)) rfl ⟨rfl, ?_⟩
    exact ((Fp.of_below (S := fun k => k = eb) HBW.out).setRow (fun _ => rfl)).below (Nat.le_refl _) (fun k hk e => by have := HEB.out; omega)
   ·rw [show atI (some z) = (z.i : Int) from rfl, show ofI (some z) = (z.k : Int) from rfl]
    obtain ⟨hz1, hz2⟩ := HBT.out z rfl
    obtain ⟨p, hp, hnp⟩ := ZcZ HA.out hz1
    obtain ⟨hsv, y, hy, hgv, hrows⟩ := ZeG hnp hz2
    have hpm := List.mem_of_getElem? hp
    have hym := List.mem_of_getElem? hy
    have hne : y.l ≠ [] := fun e => by
     have h1 := HFT.out z rfl
     rw [hrows, e] at h1
     simp [totT] at h1
    have HPY := Lib.hid (And.intro hp (And.intro hy (And.intro hnp (And.intro hsv (And.intro hgv (And.intro hrows (And.intro hpm (And.intro hym hne))))))))
    have HLS := Lib.hid (HR.out.lens p hpm)
    have hzi : (z.i : Int) < (l.length : Int) := by have := (List.getElem?_eq_some_iff.1 hp).1; omega
    have hzk : (z.k : Int) < (p.sh.length : Int) := by have := (List.getElem?_eq_some_iff.1 hy).1; omega
    have hz0 : ¬ (z.i : Int) < 0 := by omega
    have hR := HR.out.below HBW.out
    obtain ⟨g, off, cp, hv, _, hc1⟩ := hR.rows.at ZaW (by decide) hp
    have hQ := hR.inv p hpm
    obtain ⟨g2, off2, cap2, hv2, _, hc2⟩ := hQ.hv.at (ZbH x.q) (by decide) hy
    rw [HV.out] at hv
    cases hv
    have d3 : wr.cell? ⟨g, off + z.i * 4 + 3, none⟩ = some (.slice (some ⟨g2, off2, none⟩) p.sh.length cap2) := by rw [← hv2]; exact hc1 3 _ rfl
    obtain ⟨ya, yc, hyv, -⟩ := (hQ.inv y hym).form
    generalize hyn : y.l.length = yn at hyv
    have HYV := Lib.hid hyv
    have HENC := Lib.hid (show encQS x.q y = [.int .i64 x.q, .slice ya yn yc, .bool y.gv] by unfold encQS; rw [hyv])
    have HRA := Lib.hid (show wr.rangeAt g2 (off2 + z.k * 3) [.int .i64 x.q, .slice ya yn yc, .bool y.gv] from fun i u hu => hc2 i u (by rw [HENC.out]; exact hu))
    have HQ := Lib.hid hQ
    clear hz1 hz2 hp hnp hsv hy hgv hrows hpm hym hne hR hc1 hQ hv2 hc2 hlt hyv hyn
    go_upto_region 13 with fail
    go_wp2_with (refine wpList_load_mid rfl 100 _ rfl g2 (off2 + z.k * 3) rfl [.int .i64 x.q, .slice ya yn yc, .bool y.gv] _ HRA.out Tryz.underlying100 rfl (qs_sz x.q y) ?_)
    obtain ⟨w4, hw4⟩ : ∃ w4 : World, w4 = wr.alloc (.cells #[.int .i64 x.q, .slice ya yn yc, .bool y.gv] 100) := ⟨_, rfl⟩
    obtain ⟨sb, hsb⟩ : ∃ sb : Nat, sb = wr.heap.size := ⟨_, rfl⟩
    rw [← hw4, ← hsb]
    have HB34 := Lib.hid (show Below wr.heap.size wr w4 by rw [hw4]; exact box_below)
    have HB4 := Lib.hid (HBW.out.trans (HB34.out.mono HBW.out.size))
    have HSB := Lib.hid (show wr.heap.size ≤ sb by omega)
    have HRB := Lib.hid (HR.out.butE HBW.out HEB.out (Zb HE.out))
    have HRS := Lib.hid (HRB.out.share HPY.out.2.2.2.2.2.2.1 HPY.out.2.2.2.2.2.2.2.1 HB34.out HSB.out (show w4.heap[sb]? = some (.cells (encQS x.q y).toArray 100 (0, 0)) by rw [hw4, hsb, HENC.out]; exact Zf))
    have HE4 := Lib.hid ((HB34.out.block eb (Zb HE.out)).trans HE.out)
    clear hw4 hsb d3 b4 hz0
    have hok := HOK.out p HPY.out.2.2.2.2.2.2.1 y HPY.out.2.2.2.2.2.2.2.1
    refine (Zin sb x.q y.gv y.v y.l w4 HRS.out HPY.out.2.2.2.2.2.2.2.2 HP.out.2.2.2.1 HP.out.2.2.2.2 hok.1 hok.2).mono ?_
    rintro e w5 ⟨row, rest, v5, l5, rfl, hpk, hR5, hm5, hF5⟩
    have HPK := Lib.hid hpk
    have HM5 := Lib.hid hm5
    have HR5 := Lib.hid hR5
    have hb45 : Below wr.heap.size w4 w5 := hF5.below HB34.out.size (fun j hj e => by have := HSB.out; omega)
    have HB45 := Lib.hid (HB34.out.trans hb45)
    have HB5 := Lib.hid (HBW.out.trans (HB45.out.mono HBW.out.size))
    have HE5 := Lib.hid ((HB45.out.block eb (Zb HE.out)).trans HE.out)
    clear hpk hR5 hm5 hF5 hb45 hok
    go_upto_region 15 with (refine Zaq rfl 25 _ _ rfl w5.heap.size rfl (entC (entOf row)) rfl rfl (ZZ (entOf row)) rfl (ZaJ (entOf row)) ?_)
    obtain ⟨w6, hw6⟩ : ∃ w6 : World, w6 = w5.alloc (.cells (entC (entOf row)) 25) := ⟨_, rfl⟩
    obtain ⟨tb, htb⟩ : ∃ tb : Nat, tb = w5.heap.size := ⟨_, rfl⟩
    rw [← hw6, ← htb]
    have HB56 := Lib.hid (show Below w5.heap.size w5 w6 by rw [hw6]; exact box_below)
    have HT6 := Lib.hid (show w6.heap[tb]? = some (.cells (entC (entOf row)) 25 (0, 0)) by rw [hw6, htb]; exact Zf)
    have HTB := Lib.hid (show w5.heap.size ≤ tb by omega)
    clear hw6 htb
    have HB6 := Lib.hid (HB5.out.trans (HB56.out.mono HB5.out.size))
    have HR6 := Lib.hid (HR.out.below HB6.out)
    obtain ⟨g', off', cp', hv', _, hc'⟩ := HR6.out.rows.at ZaW (by decide) HPY.out.1
    have b4 : w6.cell? ⟨b, 4, none⟩ = some (.slice (some ⟨g', off', none⟩) l.length cp') := by rw [← hv']; exact Za HR6.out.head rfl
    have n0 : w6.cell? ⟨g', off' + z.i * 4, none⟩ = some (.string p.name) := hc' 0 _ rfl
    have t0 : w6.cell? ⟨tb, 0, none⟩ = some (.string (entOf row).need) := Za HT6.out rfl
    have f0 : w6.frozen? ⟨tb, 0, none⟩ = false := Zd HT6.out
    clear hv' hc'
    go_upto_region 16 with fail
    obtain ⟨w7, hw7⟩ : ∃ w7 : World, w7 = w6.setCell ⟨tb, 0, none⟩ (.string p.name) := ⟨_, rfl⟩
    rw [← hw7]
    have HT7 := Lib.hid (show w7.heap[tb]? = some (.cells (entC { entOf row with need := p.name }) 25 (0, 0)) by rw [hw7]; exact Ze HT6.out)
    have HB67 := Lib.hid (show Below w5.heap.size w6 w7 by rw [hw7]; exact Below.setCell (Below.refl _ _) HTB.out _)
    clear hw7 t0 f0 b4 n0
    have t1 : w7.cell? ⟨tb, 1, none⟩ = some (.int .i64 (entOf row).cls) := Za HT7.out rfl
    have f1 : w7.frozen? ⟨tb, 1, none⟩ = false := Zd HT7.out
    go_upto_region 17 with fail
    obtain ⟨w8, hw8⟩ : ∃ w8 : World, w8 = w7.setCell ⟨tb, 1, none⟩ (.int .i64 z.k) := ⟨_, rfl⟩
    rw [← hw8]
    have HT8 := Lib.hid (show w8.heap[tb]? = some (.cells (entC { entOf row with need := p.name, cls := z.k }) 25 (0, 0)) by rw [hw8]; exact Ze HT7.out)
    have HB58 := Lib.hid (show Below w5.heap.size w5 w8 from HB56.out.trans (HB67.out.trans (by rw [hw8]; exact Below.setCell (Below.refl _ _) HTB.out _)))
    clear hw8 t1 f1
    have HB8 := Lib.hid (HB5.out.trans (HB58.out.mono HB5.out.size))
    have HR8 := Lib.hid (HR.out.below HB8.out)
    have hR8 := HR5.out.below HB58.out
    obtain ⟨va, vc, hv5, -⟩ := hR8.rows.form
    generalize hln : l5.length = ln at hv5
    have k3 : w8.cell? ⟨b, 3, none⟩ = some (.int .i64 next) := Za HR8.out.head rfl
    have u0 : w8.cell? ⟨sb, 0, none⟩ = some (.int .i64 x.q) := Za hR8.head rfl
    have u1 : w8.cell? ⟨sb, 1, none⟩ = some (.slice va ln vc) := by rw [← hv5]; exact Za hR8.head rfl
    have u2 : w8.cell? ⟨sb, 2, none⟩ = some (.bool (tookT row rest).1) := Za hR8.head rfl
    have HV5 := Lib.hid hv5
    clear hR8 hv5 hln
    go_still_tail 8, (by kernel_rfl)
    clear k3 u0 u1 u2
    obtain ⟨w9, hw9⟩ : ∃ w9 : World, w9 = w8.drew := ⟨_, rfl⟩
    change wpList _ _ _ _ _ w8.drew
    rw [← hw9]
    have HB89 := Lib.hid (show Below w8.heap.size w8 w9 by rw [hw9]; exact ⟨rfl, rfl, rfl, Nat.le_refl _, fun _ _ => rfl⟩)
    have HB9 := Lib.hid (HB8.out.trans (HB89.out.mono HB8.out.size))
    have hRS9 := (HR5.out.below HB58.out).below HB89.out
    have hset := ZkX z.i z.k p ⟨(tookT row rest).1, v5, l5⟩ next b x next v l w9 (HRB.out.below (HB45.out.trans ((HB58.out.trans (HB89.out.mono HB58.out.size)).mono HB45.out.size))) HPY.out.1 (by have := HLS.out; omega) HP.out.2.1 (HU.out p HPY.out.2.2.2.2.2.2.1) hRS9.value.1 hRS9.value.2
    rw [show (encQS x.q ⟨(tookT row rest).1, v5, l5⟩).toArray = #[.int .i64 x.q, .slice va ln vc, .bool (tookT row rest).1] by unfold encQS; simp only [HV5.out]] at hset
    have HSET := Lib.hid hset
    have HT9 := Lib.hid ((HB89.out.block tb (Zb HT8.out)).trans HT8.out)
    clear hw9 hset hRS9
    go_wp2_with fail
    refine HSET.out.mono ?_
    rintro e w10 ⟨rfl, hF10, v10, l10, hR10, hm10⟩
    have HF10 := Lib.hid hF10
    have HR10 := Lib.hid hR10
    have HM10 := Lib.hid hm10
    have hbl := Zb HR.out.head
    have HTN := Lib.hid (show w.heap.size ≤ tb ∧ tb ≠ b ∧ eb ≠ b ∧ tb ≠ eb by have h1 := HTB.out; have h2 := HB5.out.size; have h3 := HEB.out; have h4 := Zb HE5.out; omega)
    have HT10 := Lib.hid (HF10.out.heap HT9.out HTN.out.2.1)
    have HE10 := Lib.hid (HF10.out.heap (((HB58.out.trans (HB89.out.mono HB58.out.size)).block eb (Zb HE5.out)).trans HE5.out) HTN.out.2.2.1)
    have m3 : w10.cell? ⟨b, 3, none⟩ = some (.int .i64 next) := Za hR10.head rfl
    have g3 : w10.frozen? ⟨b, 3, none⟩ = false := Zd hR10.head
    have HW := Lib.hid (show wrap64 (next + 1) = n1 from HP.out.2.2.1)
    clear hF10 hR10 hm10 hbl
    go_upto_region 19 with fail
    rw [HW.out]
    obtain ⟨w11, hw11⟩ : ∃ w11 : World, w11 = w10.setCell ⟨b, 3, none⟩ (.int .i64 n1) := ⟨_, rfl⟩
    rw [← hw11]
    have HF11 := Lib.hid (show Fp (fun j => j = b) w10 w11 by rw [hw11]; exact (Fp.refl (fun j => j = b) w10).setCell (p := ⟨b, 3, none⟩) (fun _ => rfl) _)
    have HR11 := Lib.hid (show RefP (But G eb) w11 b x n1 v10 l10 from HR10.out.tick HF11.out (by rw [hw11]; exact Ze HR10.out.head))
    have HT11 := Lib.hid (HF11.out.heap HT10.out HTN.out.2.1)
    have HE11 := Lib.hid (HF11.out.heap HE10.out HTN.out.2.2.1)
    clear hw11 m3 g3
    obtain ⟨E, hE⟩ : ∃ E : Ent, E = { entOf row with need := p.name, cls := z.k } := ⟨_, rfl⟩
    rw [← hE] at HT11
    have HEE := Lib.hid (show E = { entOf row with need := z.n.name, cls := z.k } by rw [hE, (Zbk HPY.out.2.2.1).2.2])
    clear hE
    go_wp2_with (first
     | (refine Zat (cs := entC E) 25 HT11.out Tryz.underlying25 rfl (ZZ E) rfl _ rfl rfl ?_)
     | (refine wpList_store_row rfl 25 _ _ rfl eb (entC E) rfl rfl 25 _ HE11.out (ZZ E) rfl (ZaJ E) ?_))
    refine bodyPost_ret (v := .tuple #[.agg (entC E), .bool true]) (ZL Tryz.results44 rfl rfl (setRow_heap _ eb _ _ _ _ HE11.out) Tryz.underlying25 rfl (ZZ E)) rfl ?_
    have hS := (Fp.refl (fun k => k = eb) w11).setRow (g := eb) (fun _ => rfl) (cells := entC E)
    have hFall : Fp (fun j => j = b) w w11 := (((Fp.of_below HB9.out).trans HF10.out (fun _ _ h => h)).trans HF11.out (fun _ _ h => h))
    refine ⟨row, rest, by rw [← HEE.out]; rfl, by rw [HPY.out.2.2.2.2.1, HPY.out.2.2.2.2.2.1]; exact HPK.out, hFall.trans hS (fun k hk e => by have := HEB.out; omega), v10, l10, ?_, ?_⟩
    ·exact (HR11.out.fp hS (fun e => HTN.out.2.2.1 e.symm) (fun k _ hg => hg.2)).unbut HR.out.nb
    ·have e := HPY.out.2.2.1
     have h1 : QS.abs ⟨(tookT row rest).1, v5, l5⟩ = ((tookT row rest).1, (tookT row rest).2) := by
      unfold QS.abs
      simp only [HM5.out]
     have h2 := HM10.out
     rw [h1] at h2
     rw [h2, show z.n.cls.map PC.served = p.served from congrArg AR.served e, show z.n.cls.map (fun c => (c.gv, c.rows)) = p.sh.map QS.abs from congrArg AR.sh e, e]
def KeptP (ρ ρ' : Roles) (b : Nat) (w w' : World) : Prop := ∀ j o, w.heap[j]? = some o → FreeP ρ b j → w'.heap[j]? = some o ∧ FreeP ρ' b j
section
variable {W w0 wr w' w'' : World} {P b k : Nat} {x : PX} {next nd next' : Int} {v v' dv dv' : Value} {L L' : List PN} {ρ ρ' : Roles} {l l' : List QP} {A' : List AR} {u : Value} {e : Ending}
theorem KeptP.below {w : World} (hb : Below w.heap.size w w0) (h : KeptP ρ ρ' b w0 w') : KeptP ρ ρ' b w w' := fun j o hj hf => h j o ((hb.block j (Zb hj)).trans hj) hf
theorem Zhc (hF : Fp (fun j => j = b) wr w') : KeptP ρ ρ b wr w' := fun _ _ hj hf => ⟨hF.heap hj hf.2, hf⟩
theorem Zhd (hst : PlState W P x next v L ρ wr) (hd : RefP (FreeP ρ b) wr b x nd dv l) (hnb : ρ b = []) (hT : Za2 ρ wr P x next' v' L' w') : ∃ ρ', PlState W P x next' v' L' ρ' w' ∧ RefP (FreeP ρ' b) w' b x nd dv l ∧ ρ' b = [] ∧ KeptP ρ ρ' b wr w' := by
 obtain ⟨ρ1, hl, _, hp', hF⟩ := hT
 have hbl := Zb hd.head
 have hst2 := hst.step hl hp' hF
 have hsz := hF.size
 have hlat : Later ρ (fence ρ1 w') wr := fun j hj => (Zg ρ1 w' j (Nat.lt_of_lt_of_le hj hsz)).trans (hl j hj)
 refine ⟨fence ρ1 w', hst2.fence, hd.move hF (fun ⟨t, e⟩ => by rw [hnb] at e; simp at e) (fun j hj hg => ⟨⟨(hlat j hj).trans hg.1, hg.2⟩, fun ⟨t, e⟩ => by rw [hg.1] at e; simp at e⟩) (fun e => e.2 rfl) (fun j hj => ⟨Zw hj, by omega⟩), (hlat b hbl).trans hnb, fun j o hj hf => ⟨?_, (hlat j (Zb hj)).trans hf.1, hf.2⟩⟩
 exact hF.heap hj (fun ⟨t, e⟩ => by rw [hf.1] at e; simp at e)
structure HalfP (W : World) (P b : Nat) (x : PX) (k : Nat) (next nd : Int) (v : Value) (L : List PN) (ρ : Roles) (dv : Value) (l : List QP) (A : List AR) (wr : World) : Prop where
 st : PlState W P x next v L ρ wr
 doc : RefP (FreeP ρ b) wr b x nd dv l
 nb : ρ b = []
 wb : W.heap.size ≤ b
 abs : L.map PN.abs = A
 lw : Lw x next L k
theorem BothP.first_prog (h : BothP W P b x k next v L ρ dv l wr) (hT : ∃ v' L', Za2 ρ wr P x next' v' L' w' ∧ Lw x next' L' (k + 1) ∧ L'.map PN.abs = A') : ∃ v' L' ρ', HalfP W P b x (k + 1) next' next v' L' ρ' dv l A' w' ∧ KeptP ρ ρ' b wr w' := by
 obtain ⟨v', L', hT, hlw, hA⟩ := hT
 obtain ⟨ρ', h1, h2, h3, h4⟩ := Zhd h.st h.doc h.nb hT
 exact ⟨v', L', ρ', ⟨h1, h2, h3, h.wb, hA, hlw⟩, h4⟩
theorem HalfP.then_doc (h : HalfP W P b x k next nd v L ρ dv l A' wr) (hD : ZdY (FreeP ρ b) b x next A' u wr e w') : e = .returned u ∧ (∃ dv' l', BothP W P b x k next v L ρ dv' l' w') ∧ KeptP ρ ρ b wr w' := by
 obtain ⟨he, hF, dv', l', hR, hA⟩ := hD
 exact ⟨he, ⟨dv', l', Zl8 h.st hF h.nb h.wb, hR, h.nb, h.wb, by rw [h.abs, hA], h.lw⟩, Zhc hF⟩
end
def TwinP (W : World) (P b : Nat) (x : PX) (k : Nat) (w : World) : Prop := ∃ next v L ρ dv l, BothP W P b x k next v L ρ dv l w
theorem TwinP.on {W : World} {P b : Nat} {x : PX} {k : Nat} {w w' : World} (h : TwinP W P b x k w) (hb : Below w.heap.size w w') : TwinP W P b x k w' := by
 obtain ⟨next, v, L, ρ, dv, l, h⟩ := h
 exact ⟨next, v, L, ρ, dv, l, h.on hb⟩
section
variable {W wr : World} {P b k : Nat} {x : PX} {next : Int} {v dv : Value} {L : List PN} {ρ : Roles} {l : List QP}
end
theorem Zea {P : Program} (d : Nat) (xs : Array Value) (w : World) : ∀ (fs : List Field), (∀ f ∈ fs, ∃ v, (part f.type xs f.offset).run P w = .ok v w ∧ (Op.equalIn d f.type v v).run P w = .ok true w) → (Op.eqFields d xs xs fs).run P w = .ok true w
 | [], _ => by simp [Op.eqFields]
 | f :: fs, h => by
   obtain ⟨v, h1, h2⟩ := h f (by simp)
   have ih := Zea d xs w fs (fun g hg => h g (by simp [hg]))
   rw [Op.eqFields]
   split
   ·simp only [Sem.run_bind, h1, Result.andThen_ok, h2, Bool.not_true, Bool.false_eq_true, if_false]
    exact ih
   ·exact ih
theorem ZjI (o : Ent) (w : World) : (binOp .eql 25 (entV o) (entV o)).run Tryz.prog w = .ok (.bool true) w := by
 unfold entV
 rw [run_eql_struct, show (10000 : Nat) = 9999 + 1 from rfl, run_equalIn_agg w 9999 25 _ _ (by kernel_rfl) (by kernel_rfl)]
 have h : (Op.eqFields 9999 (entC o) (entC o) (Tryz.prog.fieldsOf 25).toList).run Tryz.prog w = .ok true w := by
  refine Zea _ _ _ _ ?_
  simp only [Program.fieldsOf, Tryz.underlying25]
  simp only [List.forall_mem_cons]
  refine ⟨⟨.string o.need, by (simp only [entC]; go_simp), by (go_simp; try simp)⟩, ⟨.int .i64 o.cls, by (simp only [entC]; go_simp), by (go_simp; try simp)⟩, ⟨.int .i64 o.ten, by (simp only [entC]; go_simp), by (go_simp; try simp)⟩, ⟨.int .i64 o.tw, by (simp only [entC]; go_simp), by (go_simp; try simp)⟩, ⟨.int .i64 o.inv, by (simp only [entC]; go_simp), by (go_simp; try simp)⟩, ⟨.int .i64 o.iw, by (simp only [entC]; go_simp), by (go_simp; try simp)⟩, ⟨.int .i64 o.id, by (simp only [entC]; go_simp), by (go_simp; try simp)⟩, ⟨.int .i64 o.cost, by (simp only [entC]; go_simp), by (go_simp; try simp)⟩, ?_⟩
  simp
 rw [h]
 rfl
theorem Zl9 : Tryz.prog.eqGuardType Tryz.prog.depth 25 = false := by kernel_rfl
theorem ZgB {w : World} {ops : Array Oper} {rest : List Oper} {o : Oper} {a : Act} {Q : Exit → Act → World → Prop} {p : Ent} {tr : TypeId} (hgd : o.guard = none) (x y : Operand) (ho : o.op = .binOp .eql 25 x y tr)
 (hx : a.eval x = entV p) (hy : a.eval y = entV p) (h : wpList Tryz.prog ops Q rest (a.put o.dst (.bool true)) w) : wpList Tryz.prog ops Q (o :: rest) a w := by
 refine wpList_plain hgd fun K hK => ?_
 have hrun : (execOp a.eval o).run Tryz.prog w = .ok (.value (.bool true)) w := by
  simp only [execOp, ho, hx, hy, Sem.run_bind, entV, run_eqGuard_agg _ _ _ _ _ _ _ Zl9, Result.andThen_ok]
  have h := ZjI p w
  unfold entV at h
  rw [h]
  rfl
 unfold Oper.wp
 rw [hrun, Oper.upon_value]
 exact hK _ _ h
theorem HalfP.on {W wr w' : World} {P b k : Nat} {x : PX} {next nd : Int} {v dv : Value} {L : List PN} {ρ : Roles} {l : List QP} {A : List AR} (h : HalfP W P b x k next nd v L ρ dv l A wr) (hb : Below wr.heap.size wr w') : HalfP W P b x k next nd v L ρ dv l A w' := ⟨h.st.on hb, h.doc.below hb, h.nb, h.wb, h.abs, h.lw⟩
def Zgp (E : Ent) : Obj := .cells (entC E) 25 (0, 0)
theorem Zfy {w : World} {bx : Nat} {E : Ent} (h : w.heap[bx]? = some (Zgp E)) : w.cell? ⟨bx, 0, none⟩ = some (.string E.need) ∧ w.cell? ⟨bx, 1, none⟩ = some (.int .i64 E.cls) ∧ w.cell? ⟨bx, 2, none⟩ = some (.int .i64 E.ten) ∧ w.cell? ⟨bx, 3, none⟩ = some (.int .i64 E.tw) ∧ w.cell? ⟨bx, 4, none⟩ = some (.int .i64 E.inv) ∧ w.cell? ⟨bx, 5, none⟩ = some (.int .i64 E.iw) ∧ w.cell? ⟨bx, 6, none⟩ = some (.int .i64 E.id) ∧ w.cell? ⟨bx, 7, none⟩ = some (.int .i64 E.cost) :=
 ⟨Za h rfl, Za h rfl, Za h rfl, Za h rfl, Za h rfl, Za h rfl, Za h rfl, Za h rfl⟩
section
variable {W wr : World} {P b k : Nat} {x : PX} {next : Int} {v dv : Value} {L : List PN} {ρ : Roles} {l : List QP}
end
end Go.Proofs.YtdbjihkgafhakaaGreatDoor
