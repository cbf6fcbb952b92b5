/-
 pool.Load: roles told anew; a need as far as it is loaded.
 pool.Pools: load, the need of a row: the walk.
 pool.Load: each, with Load's closure: the walk.
-/
import Derived.Test.YtdbjihkgafhakaaGreatDoorSl19
import Derived.Test.YtdbjihkgafhakaaGreatDoorSl14
import Derived.Test.YtdbjihkgafhakaaGreatDoorSl23
import Derived.Test.YtdbjihkgafhakaaGreatDoorSl21
import Derived.Deep.RegionHeld3
import Derived.Lib.QuietBelow
import Derived.BigQuiet
import Derived.Test.YtdbjihkgafhakaaGreatDoorSl15
import Derived.Maps.Own
import Derived.Maps.OwnOps
import Derived.BigRegion
namespace Go.Proofs.YtdbjihkgafhakaaGreatDoor
open Go.RowKit
section
variable {p p' : List Int} {ρ ρ' : Roles} {w : World}
theorem QueAt.repre {b : Nat} {l : List It} (h : QueAt p ρ w b l) (he : ∀ k s, ρ k = p ++ s → ρ' k = p' ++ s) : QueAt p' ρ' w b l := by
 obtain ⟨m, lk, D, h⟩ := h
 exact ⟨m, lk, D, h.head, he _ _ h.rq, he _ _ h.rm, h.map, h.size, h.has, h.at_, fun i x hx => ⟨he _ _ (h.link i x hx).1, (h.link i x hx).2⟩, h.good⟩
theorem SpinAt.repre {sp : Nat} {q : Int} {gv : Bool} {v : Value} {ns : List Nd} (h : SpinAt p ρ w sp q gv v ns) (he : ∀ k s, ρ k = p ++ s → ρ' k = p' ++ s) : SpinAt p' ρ' w sp q gv v ns :=
 ⟨h.head, he _ _ h.rs, h.arr, fun k hk => he _ _ (h.ra k hk), fun i n hn => ⟨he _ _ (h.node i n hn).1, (h.node i n hn).2⟩, h.once, h.few⟩
theorem Zmi (he : ∀ k s, ρ k = p ++ s → ρ' k = p' ++ s) (t : List Int) : ∀ k s, ρ k = (p ++ t) ++ s → ρ' k = (p' ++ t) ++ s := fun k s h => by
 rw [List.append_assoc] at h ⊢
 exact he k _ h
theorem RingAt.repre {f : Nat} {q : Int} {gv : Bool} {rows : List FRow} (h : RingAt p ρ w f q gv rows) (he : ∀ k s, ρ k = p ++ s → ρ' k = p' ++ s) : RingAt p' ρ' w f q gv rows := by
 obtain ⟨sp, v, ns, qb, its, h, e⟩ := h
 exact ⟨sp, v, ns, qb, its, ⟨h.head, he _ _ h.rf, h.spin.repre he, h.src, fun n hn => (h.que n hn).repre (Zmi he _), h.full, h.q1, h.q2, h.good, h.idok⟩, e⟩
theorem ShareAt.repre {f : Nat} {q : Int} {gv : Bool} {rows : List TRow} (h : ShareAt p ρ w f q gv rows) (he : ∀ k s, ρ k = p ++ s → ρ' k = p' ++ s) : ShareAt p' ρ' w f q gv rows := by
 obtain ⟨sp, v, ns, fb, a, h, e⟩ := h
 exact ⟨sp, v, ns, fb, a, ⟨⟨h.pre'.head, he _ _ h.pre'.rf, h.pre'.spin.repre he, h.pre'.src, fun n hn => (h.pre'.ring n hn).repre (Zmi he _), h.pre'.q1, h.pre'.q2, h.pre'.good, h.pre'.idok⟩, h.full⟩, e⟩
end
structure LSt (ρ : Roles) (w w3 : World) (q : Int) (A : AR) (nb k : Nat) (ρ' : Roles) (n : PN) (wr : World) : Prop where
 name : n.name = A.name
 uses : n.uses = A.uses
 blk : n.blk = nb
 served : n.cls.map PC.served = A.served.take k
 sh : n.cls.map (fun c => (c.gv, c.rows)) = A.sh.take k
 need : NeedAt ρ' wr q k n
 later : Later ρ ρ' w
 news : ZA ρ' [0] w.heap.size
 far : ∀ j, wr.heap.size ≤ j → ρ' j = []
 below : Below w.heap.size w wr
 low : w.heap.size ≤ nb
 cvb : ∀ j, n.cv.ownBlock = some j → nb ≤ j
 fp : Fp (fun j => nb ≤ j) w3 wr
theorem Zmj {ρ : Roles} {w w2 w3 : World} {q : Int} {A : AR} (hb : Below w.heap.size w w2) (hw : w3 = w2.alloc (pnO ⟨A.name, A.uses, w2.heap.size, .slice none 0 0, []⟩)) : LSt ρ w w3 q A w2.heap.size 0 (fun j => if j = w2.heap.size then [0, 4, (w2.heap.size : Int)] else fence ρ w j) ⟨A.name, A.uses, w2.heap.size, .slice none 0 0, []⟩ w3 := by
 have hb3 : Below w2.heap.size w2 w3 := by rw [hw]; exact box_below
 have hz : w3.heap.size = w2.heap.size + 1 := by rw [hw]; simp
 have hbz := hb.size
 refine ⟨rfl, rfl, rfl, rfl, rfl, ⟨by rw [hw]; exact Zf, by simp, .inl ⟨rfl, rfl⟩, (fun k hk => by cases hk), (fun k c h => by simp at h), rfl, by simp⟩, fun k hk => by simp [show k ≠ w2.heap.size by omega]; exact Zg ρ w k hk, fun k hk => ?_, fun j hj => by simp [show j ≠ w2.heap.size by omega]; exact Zw (by omega), hb.trans (hb3.mono hbz), hbz, (fun j hj => by cases hj), Fp.refl _ _⟩
 by_cases e : k = w2.heap.size
 ·exact .inr ⟨[4, (w2.heap.size : Int)], by simp [e]⟩
 ·exact .inl (by simp [e]; exact Zw hk)
def lRho (ρ' ρ6 : Roles) (z cb ub nb : Nat) (v9 : Value) : Roles := fun j => if j < z then ρ' j else if j = cb then [0, 5, (nb : Int)] else if j = ub then (if v9.ownBlock = some ub then [0, 2, (nb : Int)] else []) else if j < cb then (if (ρ6 j).take 1 = [9] then [0, 6, (cb : Int)] ++ (ρ6 j).drop 1 else []) else []
section
variable {ρ ρ' ρ6 : Roles} {w w3 wr w6 W w9 w10 : World} {q t : Int} {A : AR} {nb k f : Nat} {n : PN} {v9 : Value} {gv : Bool} {rows : List TRow}
theorem Znz (h : LSt ρ w w3 q A nb k ρ' n wr) (hsv : A.served[k]? = some t) (hsh : A.sh[k]? = some (gv, rows))
 (hb6 : Below wr.heap.size wr w6) (hR6 : ShareAt [9] ρ6 w6 f q gv rows) (hold : ∀ j, j < wr.heap.size → ¬ Part ρ6 [9] j)
 (hW : W = (w6.alloc (.cells #[.int .i64 t, .pointer (some ⟨f, 0, none⟩)] 76)).alloc (.cells #[.pointer (some ⟨w6.heap.size, 0, none⟩)] 73))
 (hA : ArrIn 73 w9 v9 (n.cls.map PC.blk ++ [w6.heap.size])) (hg : W.grownBy w9 n.cv.ownBlock) (hat : v9.ownBlock = n.cv.ownBlock ∨ v9.ownBlock = some W.heap.size) (hw : w10 = w9.setCell ⟨nb, 2, none⟩ v9) :
 LSt ρ w w3 q A nb (k + 1) (lRho ρ' ρ6 wr.heap.size w6.heap.size W.heap.size nb v9) { n with cv := v9, cls := n.cls ++ [(⟨t, w6.heap.size, f, gv, rows⟩ : PC)] } w10 := by
 have hnb : n.blk = nb := h.blk
 have z1 := hb6.size
 have z3 : W.heap.size = w6.heap.size + 2 := by rw [hW]; simp
 have hbW : Below w6.heap.size w6 W := by rw [hW]; exact box_below.alloc (by simp) _
 have hFg : Fp (fun j => n.cv.ownBlock = some j) W w9 := (Fp.refl _ W).grown hg (fun _ _ e => e)
 have z4 := hFg.size
 have hF10 : Fp (fun j => j = nb) w9 w10 := by rw [hw]; exact (Fp.refl (fun j => j = nb) w9).setCell (p := ⟨nb, 2, none⟩) (fun _ => rfl) _
 have z5 := hF10.size
 have hnr := h.need.role
 rw [hnb] at hnr
 have hnlt : nb < wr.heap.size := by rw [← hnb]; exact Zb h.need.blk
 have hcv : ∀ j, n.cv.ownBlock = some j → ρ' j = [0, 2, (nb : Int)] ∧ j < wr.heap.size := fun j hj => ⟨by rw [← hnb]; exact h.need.arole j hj, h.need.arr.lt j hj⟩
 have hl : Later ρ' (lRho ρ' ρ6 wr.heap.size w6.heap.size W.heap.size nb v9) wr := fun j hj => by
  unfold lRho
  rw [if_pos hj]
 have F2 : Fp (fun j => j = nb ∨ n.cv.ownBlock = some j) w6 w10 := (((Fp.of_below hbW).trans hFg (fun _ _ e => .inr e)).trans hF10 (fun _ _ e => .inl e))
 have F1 : Fp (fun j => j = nb ∨ n.cv.ownBlock = some j) wr w10 := (Fp.of_below hb6).trans F2 (fun _ _ e => e)
 have hS : ∀ j, j = nb ∨ n.cv.ownBlock = some j → lRho ρ' ρ6 wr.heap.size w6.heap.size W.heap.size nb v9 j = [0, 4, (nb : Int)] ∨ lRho ρ' ρ6 wr.heap.size w6.heap.size W.heap.size nb v9 j = [0, 2, (nb : Int)] := fun j e => by
  rcases e with e | e
  ·exact .inl (by rw [e, hl nb hnlt]; exact hnr)
  ·exact .inr (by rw [hl j (hcv j e).2]; exact (hcv j e).1)
 have hsn : ∀ j, wr.heap.size ≤ j → ¬ (j = nb ∨ n.cv.ownBlock = some j) := fun j hj e => by
  rcases e with e | e
  ·omega
  ·have := (hcv j e).2
   omega
 have hcb : w10.heap[w6.heap.size]? = some (.cells #[.int .i64 t, .pointer (some ⟨f, 0, none⟩)] 76 (0, 0)) := by
  have hc : W.heap[w6.heap.size]? = some (.cells #[.int .i64 t, .pointer (some ⟨f, 0, none⟩)] 76 (0, 0)) := by rw [hW]; exact Zi Zf
  exact hF10.heap (hFg.heap hc (fun e => hsn _ z1 (.inr e))) (fun e => hsn _ z1 (.inl e))
 have hnn : w10.heap[nb]? = some (pnO { n with cv := v9, cls := n.cls ++ [(⟨t, w6.heap.size, f, gv, rows⟩ : PC)] }) := by
  have hb0 := h.need.blk
  rw [hnb] at hb0
  have hb1 := (hb6.block _ hnlt).trans hb0
  have hb2 := hFg.heap ((hbW.block _ (Zb hb1)).trans hb1) (fun e => by have h3 := (hcv nb e).1; rw [hnr] at h3; simp at h3)
  rw [hw]
  exact Ze hb2
 have hsvl : (A.served.take k).length = k := by rw [List.length_take]; have := (List.getElem?_eq_some_iff.1 hsv).1; omega
 have hpart : ∀ j, wr.heap.size ≤ j → j < w6.heap.size → ∀ s, ρ6 j = [9] ++ s → lRho ρ' ρ6 wr.heap.size w6.heap.size W.heap.size nb v9 j = [0, 6, (w6.heap.size : Int)] ++ s := fun j h1 h2 s e => by
  unfold lRho
  rw [if_neg (by omega), if_neg (by omega), if_neg (by omega), if_pos h2, e]
  simp
 refine ⟨h.name, h.uses, hnb, ?_, ?_, ⟨by rw [show ({ n with cv := v9, cls := n.cls ++ [(⟨t, w6.heap.size, f, gv, rows⟩ : PC)] } : PN).blk = nb from hnb]; exact hnn, by show lRho ρ' ρ6 wr.heap.size w6.heap.size W.heap.size nb v9 n.blk = [0, 4, (n.blk : Int)]; rw [hnb, hl nb hnlt]; exact hnr, ?_, fun j hj => ?_, fun j c hc => ?_, by simp [h.need.len], ?_⟩, fun j hj => ?_, fun j hj => ?_, fun j hj => ?_, ?_, h.low, fun j hj => ?_, h.fp.trans F1 (fun j _ e => ?_)⟩
 ·show (n.cls ++ [(⟨t, w6.heap.size, f, gv, rows⟩ : PC)]).map PC.served = _
  rw [List.map_append, h.served, List.take_add_one, hsv]
  rfl
 ·show (n.cls ++ [(⟨t, w6.heap.size, f, gv, rows⟩ : PC)]).map (fun c => (c.gv, c.rows)) = _
  rw [List.map_append, h.sh, List.take_add_one, hsh]
  rfl
 ·show ArrIn _ w10 v9 ((n.cls ++ [(⟨t, w6.heap.size, f, gv, rows⟩ : PC)]).map PC.blk)
  rw [List.map_append]
  exact hA.frame hF10 (fun j hj e => by
   rcases hat with e1 | e1
   ·rw [e1, e] at hj
    have h3 := (hcv nb hj).1
    rw [hnr] at h3
    simp at h3
   ·rw [e1] at hj
    simp at hj
    omega)
 ·show lRho ρ' ρ6 wr.heap.size w6.heap.size W.heap.size nb v9 j = [0, 2, (n.blk : Int)]
  change v9.ownBlock = some j at hj
  rw [hnb]
  rcases hat with e1 | e1
  ·rw [e1] at hj
   rw [hl j (hcv j hj).2]
   exact (hcv j hj).1
  ·have hju : j = W.heap.size := by rw [e1] at hj; simpa using hj.symm
   unfold lRho
   rw [if_neg (by omega), if_neg (by omega), if_pos hju, if_pos e1]
 ·show ClsAt _ w10 q n.blk c
  change (n.cls ++ [(⟨t, w6.heap.size, f, gv, rows⟩ : PC)])[j]? = some c at hc
  rw [hnb]
  rcases Nat.lt_or_ge j n.cls.length with hj | hj
  ·rw [List.getElem?_append_left hj] at hc
   have hC := h.need.cls j c hc
   rw [hnb] at hC
   have hC' := hC.later hl
   refine hC'.frame F1 (fun e => ?_) (fun t ht hp e => ?_)
   ·have hr := hC.role
    rcases e with e | e
    ·rw [e, hnr] at hr
     simp at hr
    ·rw [(hcv _ e).1] at hr
     simp at hr
   ·obtain ⟨u, hu⟩ := hp
    rcases hS t e with e1 | e1 <;> · rw [e1] at hu; simp at hu
  ·rw [List.getElem?_append_right hj] at hc
   have hj0 : j = n.cls.length := by
    have := (List.getElem?_eq_some_iff.1 hc).1
    simp at this
    omega
   subst hj0
   simp at hc
   subst hc
   refine ⟨hcb, ?_, ?_⟩
   ·unfold lRho
    rw [if_neg (by show ¬ w6.heap.size < wr.heap.size; omega), if_pos rfl]
   ·have hR : ShareAt [0, 6, (w6.heap.size : Int)] (fun j => if j < w6.heap.size then lRho ρ' ρ6 wr.heap.size w6.heap.size W.heap.size nb v9 j else [0, 6, (w6.heap.size : Int)] ++ (ρ6 j).drop 1) w6 f q gv rows := hR6.repre (fun j s e => by
     by_cases hj6 : j < w6.heap.size
     ·rw [if_pos hj6]
      exact hpart j (Nat.le_of_not_lt fun hlt => hold j hlt ⟨s, e⟩) hj6 s e
     ·rw [if_neg hj6, e]
      simp)
    have hR2 : ShareAt [0, 6, (w6.heap.size : Int)] (lRho ρ' ρ6 wr.heap.size w6.heap.size W.heap.size nb v9) w6 f q gv rows := hR.later (fun j hj => by simp [hj])
    refine hR2.frame F2 (fun j hj hp e => ?_)
    obtain ⟨u, hu⟩ := hp
    rcases hS j e with e1 | e1 <;> · rw [e1] at hu; simp at hu
 ·show ((n.cls ++ [(⟨t, w6.heap.size, f, gv, rows⟩ : PC)]).map PC.blk).Nodup
  rw [List.map_append, List.nodup_append]
  refine ⟨h.need.once, by simp, fun a ha b hb e => ?_⟩
  obtain ⟨c, hc, rfl⟩ := List.mem_map.1 ha
  simp at hb
  obtain ⟨i, hi⟩ := List.getElem?_of_mem hc
  have := Zb (h.need.cls i c hi).blk
  omega
 ·rw [hl j (Nat.lt_of_lt_of_le hj h.below.size)]
  exact h.later j hj
 ·have key : (∃ r, lRho ρ' ρ6 wr.heap.size w6.heap.size W.heap.size nb v9 j = 0 :: r) ∨ lRho ρ' ρ6 wr.heap.size w6.heap.size W.heap.size nb v9 j = [] ∨ lRho ρ' ρ6 wr.heap.size w6.heap.size W.heap.size nb v9 j = ρ' j := by
   unfold lRho
   split
   ·exact .inr (.inr rfl)
   ·split
    ·exact .inl ⟨_, rfl⟩
    ·split
     ·split
      ·exact .inl ⟨_, rfl⟩
      ·exact .inr (.inl rfl)
     ·split
      ·split
       ·exact .inl ⟨_, rfl⟩
       ·exact .inr (.inl rfl)
      ·exact .inr (.inl rfl)
  rcases key with ⟨r, e⟩ | e | e
  ·exact .inr ⟨r, e⟩
  ·exact .inl e
  ·rcases h.news j hj with e2 | ⟨t, e2⟩
   ·exact .inl (e.trans e2)
   ·exact .inr ⟨t, e.trans e2⟩
 ·have hv9 : ∀ i, v9.ownBlock = some i → i < w9.heap.size := hA.lt
  unfold lRho
  rw [if_neg (by omega), if_neg (by omega)]
  by_cases eu : j = W.heap.size
  ·rw [if_pos eu, if_neg (fun e => by have := hv9 _ e; omega)]
  ·rw [if_neg eu, if_neg (by omega)]
 ·exact h.below.trans (F1.below h.below.size (fun j hj e => by
   rcases e with e | e
   ·have := h.low; omega
   ·have := h.cvb j e
    have := h.low
    omega))
 ·change v9.ownBlock = some j at hj
  rcases hat with e1 | e1
  ·rw [e1] at hj
   exact h.cvb j hj
  ·have hju : j = W.heap.size := by rw [e1] at hj; simpa using hj.symm
   omega
 ·rcases e with e | e
  ·omega
  ·exact h.cvb j e
end
open Go.Sort
structure PVAt (w : World) (r : PR) (A : AR) (sh : List (Value × List TV)) : Prop where
 name : r.name = A.name
 uses : r.uses = A.uses
 sv : SlAt w r.sv A.served.length (A.served.flatMap encZ)
 hv : SlAt w r.hv A.sh.length (sh.map Prod.fst)
 gv : SlAt w r.gv A.sh.length (A.sh.map (fun s => Value.bool s.1))
 rows : ∀ s ∈ sh, TRowsAt w s.1 s.2
 same : sh.map (fun s => s.2.map Prod.fst) = A.sh.map Prod.snd
theorem PVAt.below {w w' : World} {r : PR} {A : AR} {sh : List (Value × List TV)} (h : PVAt w r A sh) (hb : Below w.heap.size w w') : PVAt w' r A sh :=
 ⟨h.name, h.uses, h.sv.below hb, h.hv.below hb, h.gv.below hb, fun s hs => (h.rows s hs).below hb, h.same⟩
def ShOk (sh : List (Value × List TV)) : Prop := ∀ s ∈ sh, (∀ p ∈ s.2, ZgD p) ∧ totT (s.2.map Prod.fst) < 1000000 ∧ s.2.length < 1000000 ∧ ∀ p ∈ s.2, p.2.2.length < 1000000
def Zc0 (x : PX) (L : List PN) (A : AR) : Prop := 1 ≤ A.uses ∧ ZR A.name L = -1 ∧ A.served.length = x.classes ∧ A.sh.length = x.classes ∧ ∀ s ∈ A.sh, okTL x.q s.1 s.2
def Zmk (ρ : Roles) (w : World) (x : PX) (L : List PN) (A : AR) (e : Ending) (w' : World) : Prop :=
 Below w.heap.size w w' ∧ ((Zc0 x L A ∧ ∃ w3 nb ρ' n, e = .returned (.tuple #[.pointer (some ⟨nb, 0, none⟩), .bool true]) ∧ LSt ρ w w3 x.q A nb x.classes ρ' n w') ∨ (¬ Zc0 x L A ∧ e = .returned (.tuple #[.pointer none, .bool false])))
section
variable {ρ : Roles} {P : Nat} {x : PX} {next : Int} {v : Value} {L : List PN}
set_option maxRecDepth 100000 in
set_option maxHeartbeats 8000000 in
theorem Zla (r : PR) (A : AR) (sh : List (Value × List TV)) (w : World) (hS : PoolAt ρ w P x next v L) (hf : L.length ≤ 1000000) (hA : PVAt w r A sh) (hno : A.uses < 1 ∨ 0 ≤ ZR A.name L ∨ A.served.length ≠ x.classes ∨ A.sh.length ≠ x.classes) :
 Calls Tryz.prog 51 #[.pointer (some ⟨P, 0, none⟩), .agg (encPR r).toArray] w fun e w' => e = .returned (.tuple #[.pointer none, .bool false]) ∧ Below w.heap.size w w' := by
 obtain ⟨rn, ru, rsv, rhv, rgv⟩ := r
 have HS := Lib.hid (hS.below (box_below (o := .cells (encPR ⟨rn, ru, rsv, rhv, rgv⟩).toArray 95)))
 have HF := Lib.hid hf
 obtain ⟨sa, sc, hsv, -⟩ := hA.sv.form
 obtain ⟨ha, hc, hhv, -⟩ := hA.hv.form
 obtain ⟨ga, gc, hgv, -⟩ := hA.gv.form
 simp only at hsv hhv hgv
 subst hsv hhv hgv
 obtain rfl : rn = A.name := hA.name
 obtain rfl : ru = A.uses := hA.uses
 clear hS hf hA
 unfold encPR at HS ⊢
 go_enter Tryz.func51, Tryz.ntmps51
 go_upto_region 1 with fail
 obtain ⟨w1, hw1⟩ : ∃ w1 : World, w1 = w.alloc (.cells #[.string A.name, .int .i64 A.uses, .slice sa A.served.length sc, .slice ha A.sh.length hc, .slice ga A.sh.length gc] 95) := ⟨_, rfl⟩
 obtain ⟨xb, hxb⟩ : ∃ xb : Nat, xb = w.heap.size := ⟨_, rfl⟩
 simp only at HS
 rw [← hw1] at HS
 rw [← hw1, ← hxb]
 have hx1 : w1.heap[xb]? = some (.cells #[.string A.name, .int .i64 A.uses, .slice sa A.served.length sc, .slice ha A.sh.length hc, .slice ga A.sh.length gc] 95 (0, 0)) := by rw [hw1, hxb]; exact Zf
 have HB1 := Lib.hid (show Below w.heap.size w w1 by rw [hw1]; exact box_below)
 have x0 := cell_regrown (show w1.cell? ⟨xb, 0, none⟩ = some (.string A.name) from Za hx1 rfl)
 have x1 := cell_regrown (show w1.cell? ⟨xb, 1, none⟩ = some (.int .i64 A.uses) from Za hx1 rfl)
 have x2 := cell_regrown (show w1.cell? ⟨xb, 2, none⟩ = some (.slice sa A.served.length sc) from Za hx1 rfl)
 have x3 := cell_regrown (show w1.cell? ⟨xb, 3, none⟩ = some (.slice ha A.sh.length hc) from Za hx1 rfl)
 have x4 := cell_regrown (show w1.cell? ⟨xb, 4, none⟩ = some (.slice ga A.sh.length gc) from Za hx1 rfl)
 have p1 := cell_regrown (show w1.cell? ⟨P, 1, none⟩ = some (.int .i64 x.classes) from Za HS.out.head rfl)
 have HFIND := Lib.hid (show ∀ (d : Nat) (os : Array Obj), Calls Tryz.prog 27 #[.pointer (some ⟨P, 0, none⟩), .string A.name] (grow (redrawn w1 d) os) (fun e w' => e = .returned (.int .i64 (ZR A.name L)) ∧ Below (grow (redrawn w1 d) os).heap.size (grow (redrawn w1 d) os) w') from fun d os => Zbn A.name _ (HS.out.below (below_regrown w1 d os)) HF.out)
 clear hw1 hxb hx1
 have hcs : A.uses < 1 ∨ (¬ A.uses < 1 ∧ 0 ≤ ZR A.name L) ∨ (¬ A.uses < 1 ∧ ¬ 0 ≤ ZR A.name L ∧ ((A.served.length : Int) != (x.classes : Int)) = true) ∨ (¬ A.uses < 1 ∧ ¬ 0 ≤ ZR A.name L ∧ ((A.served.length : Int) != (x.classes : Int)) = false ∧ ((A.sh.length : Int) != (x.classes : Int)) = true) := by
  simp only [bne_iff_ne, ne_eq, bne_eq_false_iff_eq, Int.ofNat_inj]
  omega
 generalize ZR A.name L = pl at HFIND hcs
 clear hno
 rcases hcs with h1 | ⟨h1, h2⟩ | ⟨h1, h2, h3⟩ | ⟨h1, h2, h3, h4⟩
 all_goals
  go_upto_region 1 with fail
  refine wp_region_quiet_below (by kernel_rfl) (by kernel_rfl) ?_
  repeat (go_big_quiet_step (exact Calls.regrown_of (HFIND.out _ _)))
  refine wpQuiet_nil ?_
  rintro _ ⟨⟨dq, osq⟩, rfl⟩
  obtain ⟨w4, hw4⟩ : ∃ w4 : World, w4 = grow (redrawn w1 dq) osq := ⟨_, rfl⟩
  have HB4 := Lib.hid (HB1.out.trans ((show Below w1.heap.size w1 w4 by rw [hw4]; exact below_regrown w1 dq osq).mono HB1.out.size))
  rw [show (grow (redrawn w1 (Regrown.mk dq osq).d) (Regrown.mk dq osq).os) = w4 from hw4.symm]
  clear hw4 x0 x1 x2 x3 x4 p1 HFIND
  go_wp2_with fail
  exact bodyPost_ret (v := .tuple #[.pointer none, .bool false]) (by simp [results, Tryz.results51, go_sem]) rfl ⟨rfl, HB4.out⟩
set_option maxRecDepth 100000 in
set_option maxHeartbeats 16000000 in
theorem Zml (r : PR) (A : AR) (sh : List (Value × List TV)) (w : World) (hS : PoolAt ρ w P x next v L) (hf : L.length ≤ 1000000) (hcl : x.classes ≤ 1000) (hA : PVAt w r A sh) (hok : ShOk sh) :
 Calls Tryz.prog 51 #[.pointer (some ⟨P, 0, none⟩), .agg (encPR r).toArray] w (Zmk ρ w x L A) := by
 by_cases hno : A.uses < 1 ∨ 0 ≤ ZR A.name L ∨ A.served.length ≠ x.classes ∨ A.sh.length ≠ x.classes
 ·refine (Zla r A sh w hS hf hA hno).mono ?_
  rintro e w' ⟨rfl, hb⟩
  refine ⟨hb, .inr ⟨fun h => ?_, rfl⟩⟩
  obtain ⟨h1, h2, h3, h4, -⟩ := h
  omega
 ·have hp : ZR A.name L = -1 := by
   rcases ZcT A.name L with ⟨h, _⟩ | ⟨k, n, h, _, _⟩
   ·exact h
   ·omega
  have HNEED := Lib.hid (show Zc0 x L A ↔ ∀ s ∈ A.sh, okTL x.q s.1 s.2 from ⟨fun h => h.2.2.2.2, fun h => ⟨by omega, hp, by omega, by omega, h⟩⟩)
  have HLEN := Lib.hid (show A.served.length = x.classes ∧ A.sh.length = x.classes from ⟨by omega, by omega⟩)
  have hu : ¬ A.uses < 1 := by omega
  have HCL := Lib.hid hcl
  obtain ⟨rn, ru, rsv, rhv, rgv⟩ := r
  have HA := Lib.hid hA
  have HOK := Lib.hid hok
  have hS0 := Lib.hid hS
  have HS := Lib.hid (hS.below (box_below (o := .cells (encPR ⟨rn, ru, rsv, rhv, rgv⟩).toArray 95)))
  have HF := Lib.hid hf
  obtain ⟨sa, sc, hsv, -⟩ := hA.sv.form
  obtain ⟨ha, hc, hhv, -⟩ := hA.hv.form
  obtain ⟨ga, gc, hgv, -⟩ := hA.gv.form
  rw [HLEN.out.1] at hsv
  rw [HLEN.out.2] at hhv hgv
  simp only at hsv hhv hgv
  subst hsv hhv hgv
  obtain rfl : rn = A.name := hA.name
  obtain rfl : ru = A.uses := hA.uses
  have HPL := Lib.hid hp
  clear hS hf hA hok hcl hno hp
  unfold encPR at HS ⊢
  go_enter Tryz.func51, Tryz.ntmps51
  go_upto_region 1 with fail
  obtain ⟨w1, hw1⟩ : ∃ w1 : World, w1 = w.alloc (.cells #[.string A.name, .int .i64 A.uses, .slice sa x.classes sc, .slice ha x.classes hc, .slice ga x.classes gc] 95) := ⟨_, rfl⟩
  obtain ⟨xb, hxb⟩ : ∃ xb : Nat, xb = w.heap.size := ⟨_, rfl⟩
  have HXB := Lib.hid (show w.heap.size ≤ xb by omega)
  simp only at HS
  rw [← hw1] at HS
  rw [← hw1, ← hxb]
  have HX1 := Lib.hid (show w1.heap[xb]? = some (.cells #[.string A.name, .int .i64 A.uses, .slice sa x.classes sc, .slice ha x.classes hc, .slice ga x.classes gc] 95 (0, 0)) by rw [hw1, hxb]; exact Zf)
  have HB1 := Lib.hid (show Below w.heap.size w w1 by rw [hw1]; exact box_below)
  have x0 := cell_regrown (show w1.cell? ⟨xb, 0, none⟩ = some (.string A.name) from Za HX1.out rfl)
  have x1 := cell_regrown (show w1.cell? ⟨xb, 1, none⟩ = some (.int .i64 A.uses) from Za HX1.out rfl)
  have x2 := cell_regrown (show w1.cell? ⟨xb, 2, none⟩ = some (.slice sa x.classes sc) from Za HX1.out rfl)
  have x3 := cell_regrown (show w1.cell? ⟨xb, 3, none⟩ = some (.slice ha x.classes hc) from Za HX1.out rfl)
  have x4 := cell_regrown (show w1.cell? ⟨xb, 4, none⟩ = some (.slice ga x.classes gc) from Za HX1.out rfl)
  have p1 := cell_regrown (show w1.cell? ⟨P, 1, none⟩ = some (.int .i64 x.classes) from Za HS.out.head rfl)
  have HFIND := Lib.hid (show ∀ (d : Nat) (os : Array Obj), Calls Tryz.prog 27 #[.pointer (some ⟨P, 0, none⟩), .string A.name] (grow (redrawn w1 d) os) (fun e w' => e = .returned (.int .i64 (-1)) ∧ Below (grow (redrawn w1 d) os).heap.size (grow (redrawn w1 d) os) w') from fun d os => by rw [← HPL.out]; exact Zbn A.name _ (HS.out.below (below_regrown w1 d os)) HF.out)
  have hn1 : ((x.classes : Int) != (x.classes : Int)) = false := by simp
  clear hw1 hxb
  go_upto_region 1 with fail
  refine wp_region_quiet_below (by kernel_rfl) (by kernel_rfl) ?_
  repeat (go_big_quiet_step (exact Calls.regrown_of (HFIND.out _ _)))
  refine wpQuiet_nil ?_
  rintro _ ⟨⟨dq, osq⟩, rfl⟩
  obtain ⟨w2, hw2⟩ : ∃ w2 : World, w2 = grow (redrawn w1 dq) osq := ⟨_, rfl⟩
  have hb2 : Below w1.heap.size w1 w2 := by rw [hw2]; exact below_regrown w1 dq osq
  have HB2 := Lib.hid (HB1.out.trans (hb2.mono HB1.out.size))
  have HX2 := Lib.hid ((hb2.block _ (Zb HX1.out)).trans HX1.out)
  rw [show (grow (redrawn w1 (Regrown.mk dq osq).d) (Regrown.mk dq osq).os) = w2 from hw2.symm]
  have HS2 := Lib.hid (HS.out.below hb2)
  clear hw2 hb2 x0 x1 x2 x3 x4 p1 HFIND hn1
  have x0 : w2.cell? ⟨xb, 0, none⟩ = some (.string A.name) := Za HX2.out rfl
  have x1 : w2.cell? ⟨xb, 1, none⟩ = some (.int .i64 A.uses) := Za HX2.out rfl
  go_upto_region 4 with fail
  obtain ⟨w3, hw3⟩ : ∃ w3 : World, w3 = w2.alloc (.cells #[.string A.name, .int .i64 A.uses, .slice none 0 0] 71) := ⟨_, rfl⟩
  obtain ⟨nb, hnb⟩ : ∃ nb : Nat, nb = w2.heap.size := ⟨_, rfl⟩
  rw [← hw3, ← hnb]
  have HX3 := Lib.hid (show w3.heap[xb]? = some (.cells #[.string A.name, .int .i64 A.uses, .slice sa x.classes sc, .slice ha x.classes hc, .slice ga x.classes gc] 95 (0, 0)) by rw [hw3]; exact Zi HX2.out)
  have HST := Lib.hid (Zmj (ρ := ρ) (q := x.q) (A := A) HB2.out hw3)
  rw [← hnb] at HST
  have HZ := Lib.hid (show xb < w2.heap.size ∧ w.heap.size ≤ xb ∧ w2.heap.size ≤ nb from ⟨Zb HX2.out, HXB.out, by omega⟩)
  have x2 : w3.cell? ⟨xb, 2, none⟩ = some (.slice sa x.classes sc) := Za HX3.out rfl
  clear hw3 hnb x0 x1
  go_wp2_with fail
  clear x2
  go_loopg [60] x.classes (fun g i wr => ∃ (k : Nat) (ρ' : Roles) (n : PN), g = x.classes - k ∧ i = .int .i64 k ∧ k ≤ x.classes ∧ LSt ρ w w3 x.q A nb k ρ' n wr ∧ ∀ s ∈ A.sh.take k, okTL x.q s.1 s.2)
  case atStart => exact ⟨0, _, _, rfl, rfl, Nat.zero_le _, HST.out, fun s hs => by simp at hs⟩
  case round =>
   obtain ⟨k, ρ', n, hg, rfl, hk, hL, hT⟩ := hrel
   have HG := Lib.hid hg
   have HL := Lib.hid hL
   have HT := Lib.hid hT
   clear hg hL hT
   by_cases hlt : k < x.classes
   ·have hkl : (k : Int) < (x.classes : Int) := by omega
    obtain ⟨t, ht⟩ : ∃ t, A.served[k]? = some t := ⟨_, List.getElem?_eq_getElem (by have := HLEN.out.1; omega)⟩
    obtain ⟨⟨gv, rows⟩, hs⟩ : ∃ s, A.sh[k]? = some s := ⟨_, List.getElem?_eq_getElem (by have := HLEN.out.2; omega)⟩
    have hsl : sh.length = A.sh.length := by have h := congrArg List.length HA.out.same; simpa using h
    obtain ⟨⟨sv, sl⟩, hv⟩ : ∃ s, sh[k]? = some s := ⟨_, List.getElem?_eq_getElem (by rw [hsl, HLEN.out.2]; omega)⟩
    have hsr : sl.map Prod.fst = rows := by
     have h := congrArg (fun z => z[k]?) HA.out.same
     simp only [List.getElem?_map, hs, hv, Option.map_some, Option.some.injEq] at h
     exact h
    have HTS := Lib.hid (And.intro ht hs)
    have HSV := Lib.hid (HOK.out _ (List.mem_of_getElem? hv))
    have HTR := Lib.hid (HA.out.rows _ (List.mem_of_getElem? hv))
    have HSR := Lib.hid hsr
    have hmem : ((gv, rows) : Bool × List TRow) ∈ A.sh := List.mem_of_getElem? hs
    have HMEM := Lib.hid hmem
    have hbw := HL.out.below
    have hA1 := HA.out.below hbw
    obtain ⟨g1, o1, hq1, hc1⟩ := (show SlAt wr (.slice sa x.classes sc) x.classes (A.served.flatMap encZ) by have h := hA1.sv; rw [HLEN.out.1] at h; exact h).cells ZaP (by decide) ht
    subst hq1
    obtain ⟨g2, o2, hq2, hc2⟩ := (show SlAt wr (.slice ha x.classes hc) x.classes (sh.map Prod.fst) by have h := hA1.hv; rw [HLEN.out.2] at h; exact h).one (k := k) (u := sv) (by rw [List.getElem?_map, hv]; rfl)
    subst hq2
    obtain ⟨g3, o3, hq3, hc3⟩ := (show SlAt wr (.slice ga x.classes gc) x.classes (A.sh.map (fun s => Value.bool s.1)) by have h := hA1.gv; rw [HLEN.out.2] at h; exact h).one (k := k) (u := .bool gv) (by rw [List.getElem?_map, hs]; rfl)
    subst hq3
    obtain ⟨va, vc, hva, -⟩ := HTR.out.form
    simp only at hva
    subst hva
    have e1 : wr.cell? ⟨g1, o1 + k, none⟩ = some (.int .i64 t) := by have := hc1 0 _ rfl; simpa using this
    have hxr : wr.heap[xb]? = some (.cells #[.string A.name, .int .i64 A.uses, .slice (some ⟨g1, o1, none⟩) x.classes sc, .slice (some ⟨g2, o2, none⟩) x.classes hc, .slice (some ⟨g3, o3, none⟩) x.classes gc] 95 (0, 0)) := HL.out.fp.heap HX3.out (fun e => by have := HZ.out; omega)
    have x3 : wr.cell? ⟨xb, 3, none⟩ = some (.slice (some ⟨g2, o2, none⟩) x.classes hc) := Za hxr rfl
    have x4 : wr.cell? ⟨xb, 4, none⟩ = some (.slice (some ⟨g3, o3, none⟩) x.classes gc) := Za hxr rfl
    have p2 : wr.cell? ⟨P, 2, none⟩ = some (.int .i64 x.q) := Za ((hbw.block P (Zb hS0.out.head)).trans hS0.out.head) rfl
    clear ht hs hv hsl hsr hmem hbw hA1 hc1 hxr
    have HCALL := Lib.hid (show Calls Tryz.prog 79 #[.int .i64 x.q, .slice va sl.length vc, .bool gv] wr.drew (ZeJ [9] (fun _ => []) wr.drew x.q gv rows) by
     rw [← HSR.out]
     exact ZhA (pre := [9]) (ρ := fun _ => []) (by decide) x.q gv _ sl _ ((HTR.out.below HL.out.below).below ⟨rfl, rfl, rfl, Nat.le_refl _, fun _ _ => rfl⟩) HSV.out.1 HSV.out.2.1 HSV.out.2.2.1 HSV.out.2.2.2)
    have HLD := Lib.hid (show Below wr.heap.size wr wr.drew from ⟨rfl, rfl, rfl, Nat.le_refl _, fun _ _ => rfl⟩)
    by_cases hokt : okTL x.q gv rows
    ·have HC2 := Lib.hid (show Calls Tryz.prog 79 #[.int .i64 x.q, .slice va sl.length vc, .bool gv] wr.drew (fun e w' => ∃ f ρ6, e = .returned (.tuple #[.pointer (some ⟨f, 0, none⟩), .bool true]) ∧ (∀ j, j < wr.heap.size → ¬ Part ρ6 [9] j) ∧ ShareAt [9] ρ6 w' f x.q gv rows ∧ Below wr.heap.size wr w') from HCALL.out.mono (by
      rintro e w' ⟨hb, ⟨_, f, ρ6, he, hl6, _, hR, _⟩ | ⟨hn, _⟩⟩
      ·exact ⟨f, ρ6, he, fun j hj ⟨s, hs⟩ => (by rw [hl6 j hj] at hs; simp at hs), hR, Zr HLD.out hb⟩
      ·exact absurd hokt hn))
     have HOKT := Lib.hid hokt
     clear HCALL hokt
     go_upto_region 7 with fail
     go_region_held3 (fun w' => w'.cell? ⟨P, 2, none⟩ = some (.int .i64 x.q) ∧ w'.cell? ⟨xb, 3, none⟩ = some (.slice (some ⟨g2, o2, none⟩) x.classes hc) ∧ w'.cell? ⟨g2, o2 + k, none⟩ = some (.slice va sl.length vc) ∧ w'.cell? ⟨xb, 4, none⟩ = some (.slice (some ⟨g3, o3, none⟩) x.classes gc) ∧ w'.cell? ⟨g3, o3 + k, none⟩ = some (.bool gv))
      (first | go_keep | exact ⟨Zc hb6 p2, Zc hb6 x3, Zc hb6 hc2, Zc hb6 x4, Zc hb6 hc3⟩)
      (first | (go_at_call 79; refine HC2.out.mono ?_; rintro e w6 ⟨f, ρ6, rfl, hold, hR6, hb6⟩))
     have HOLD := Lib.hid hold
     have HR6 := Lib.hid hR6
     have HB6 := Lib.hid hb6
     have hnk := HL.out.blk
     have hnl := HL.out.need.len
     have hN6 := HL.out.need.frame (S := fun _ => False) (Fp.of_below hb6) (fun _ _ _ h => h)
     obtain ⟨an, capn, hcv, -⟩ := hN6.form
     have HCV := Lib.hid hcv
     have hnh : w6.heap[nb]? = some (pnO n) := by rw [← hnk]; exact hN6.blk
     have n2 : w6.cell? ⟨nb, 2, none⟩ = some (.slice an n.cls.length capn) := by rw [← hcv]; exact Za hnh rfl
     have HNH := Lib.hid hnh
     have HARR := Lib.hid (show ∀ o1 o2, ArrIn 73 ((w6.alloc o1).alloc o2) (.slice an n.cls.length capn) (n.cls.map PC.blk) from fun o1 o2 => by rw [← HCV.out]; exact hN6.arr.below (box_below.alloc (by simp) _))
     have HNEB := Lib.hid (show ∀ j, (Value.slice an n.cls.length capn).ownBlock = some j → j ≠ nb from fun j hj e => by
      rw [← HCV.out] at hj
      have h1 := HL.out.need.arole j hj
      have h2 := HL.out.need.role
      rw [HL.out.blk, ← e, h1] at h2
      simp at h2)
     have hnl2 : (n.cls.map PC.blk).length < 1000000 := by rw [List.length_map, hnl]; have := HCL.out; omega
     have lnb := Zb hnh
     clear hold hR6 hb6 hN6 hcv hnh hnk hnl x3 x4 p2 hc2 hc3
     go_upto_region 11 with (refine Zax rfl _ _ 69 rfl 73 Tryz.underlying69 Zb2 (v := .slice an n.cls.length capn) (bs := n.cls.map PC.blk) (by rfl) (by exact HARR.out _ _) (w6.heap.size + 1) w6.heap.size (by rfl) (by exact Za (ZX _ _ _) rfl) hnl2 ?_; intro v9 w9 hA9 hg9 hat9; obtain ⟨a9, m9, c9, rfl⟩ : ∃ a m c, v9 = .slice a m c := (by obtain ⟨a3, c3, h3, -⟩ := hA9.form; exact ⟨a3, _, c3, h3⟩); (have hF9 := (Fp.refl (fun j => (Value.slice an n.cls.length capn).ownBlock = some j) _).grown hg9 (fun _ _ e => e)); (have hN9 := hF9.heap (Zi (Zi HNH.out)) (fun e => HNEB.out nb e rfl)); (have q1 : w9.cell? ⟨nb, 2, none⟩ = some n.cv := Za hN9 rfl); (have q3 : w9.frozen? ⟨nb, 2, none⟩ = false := Zd hN9))
     obtain ⟨w10, hw10⟩ : ∃ w10 : World, w10 = w9.setCell ⟨nb, 2, none⟩ (.slice a9 m9 c9) := ⟨_, rfl⟩
     rw [← hw10]
     have HST2 := Lib.hid (Znz HL.out HTS.out.1 HTS.out.2 HB6.out HR6.out HOLD.out rfl hA9 (by rw [HCV.out]; exact hg9) (by rw [HCV.out]; exact hat9) hw10)
     have hclx := HCL.out
     clear hw10 hA9 hg9 hat9 hF9 hN9 q1 q3 n2 lnb
     go_wp2_with fail
     go_roundg (x.classes - (k + 1))
     case rel =>
      refine ⟨k + 1, _, _, rfl, by go_num, by omega, HST2.out, fun s hs => ?_⟩
      rw [List.take_add_one, HTS.out.2] at hs
      rcases List.mem_append.1 hs with h | h
      ·exact HT.out s h
      ·simp at h
       subst h
       exact HOKT.out
     case measure => have := HG.out; omega
    ·have HC2 := Lib.hid (show Calls Tryz.prog 79 #[.int .i64 x.q, .slice va sl.length vc, .bool gv] wr.drew (fun e w' => e = .returned (.tuple #[.pointer none, .bool false]) ∧ Below wr.heap.size wr w') from HCALL.out.mono (by
      rintro e w' ⟨hb, ⟨hy, _⟩ | ⟨_, he⟩⟩
      ·exact absurd hy hokt
      ·exact ⟨he, Zr HLD.out hb⟩))
     have HNO := Lib.hid (show ¬ Zc0 x L A from fun h => hokt (HNEED.out.1 h _ HMEM.out))
     clear HCALL hokt
     go_upto_region 7 with fail
     go_region_held3 (fun w' => w'.cell? ⟨P, 2, none⟩ = some (.int .i64 x.q) ∧ w'.cell? ⟨xb, 3, none⟩ = some (.slice (some ⟨g2, o2, none⟩) x.classes hc) ∧ w'.cell? ⟨g2, o2 + k, none⟩ = some (.slice va sl.length vc) ∧ w'.cell? ⟨xb, 4, none⟩ = some (.slice (some ⟨g3, o3, none⟩) x.classes gc) ∧ w'.cell? ⟨g3, o3 + k, none⟩ = some (.bool gv))
      (first | go_keep | exact ⟨Zc hb6 p2, Zc hb6 x3, Zc hb6 hc2, Zc hb6 x4, Zc hb6 hc3⟩)
      (first | (go_at_call 79; refine HC2.out.mono ?_; rintro e w6 ⟨rfl, hb6⟩))
     have HB6 := Lib.hid (HL.out.below.trans (hb6.mono HL.out.below.size))
     clear hb6 x3 x4 p2 hc2 hc3
     go_wp2_with fail
     exact bodyPost_ret (v := .tuple #[.pointer none, .bool false]) (by simp [results, Tryz.results51, go_sem]) rfl ⟨HB6.out, .inr ⟨HNO.out, rfl⟩⟩
   ·obtain rfl : k = x.classes := by omega
    have HYES := Lib.hid (show Zc0 x L A from HNEED.out.2 (fun s hs => HT.out s (by rw [List.take_of_length_le (by rw [HLEN.out.2]; omega)]; exact hs)))
    go_wp2_with fail
    exact bodyPost_ret (v := .tuple #[.pointer (some ⟨nb, 0, none⟩), .bool true]) (by simp [results, Tryz.results51, go_sem]) rfl ⟨HL.out.below, .inl ⟨HYES.out, _, _, _, _, rfl, HL.out⟩⟩
end
def Zc1 (next : Int) (ns : List Int) : Prop := (∀ t ∈ ns, 0 ≤ t ∧ t < next) ∧ ns.Nodup
theorem Zcp {next t : Int} {ns : List Int} : Zc1 next (ns ++ [t]) ↔ Zc1 next ns ∧ (0 ≤ t ∧ t < next) ∧ ns.count t = 0 := by
 unfold Zc1
 rw [List.nodup_append]
 constructor
 ·rintro ⟨h1, h2, -, h4⟩
  exact ⟨⟨fun u hu => h1 u (List.mem_append_left _ hu), h2⟩, h1 t (by simp), List.count_eq_zero.2 (fun hm => h4 t hm t (by simp) rfl)⟩
 ·rintro ⟨⟨h1, h2⟩, h3, h4⟩
  refine ⟨fun u hu => ?_, h2, by simp, fun a ha b hb e => ?_⟩
  ·rcases List.mem_append.1 hu with h | h
   ·exact h1 u h
   ·rw [List.mem_singleton] at h
    rw [h]
    exact h3
  ·rw [List.mem_singleton] at hb
   subst hb e
   exact List.count_eq_zero.1 h4 ha
structure MBox (w : World) (rb xb mb m : Nat) (next : Int) (ns : List Int) : Prop where
 right : ∃ r : Bool, w.heap[rb]? = some (.cells #[.bool r] 4 (0, 0)) ∧ (r = true ↔ Zc1 next ns)
 nx : w.heap[xb]? = some (.cells #[.int .i64 next] 3 (0, 0))
 met : w.heap[mb]? = some (.cells #[.map (some m)] 107 (0, 0))
 map : ∃ D : DataW Unit, w.ownsMap Tryz.prog 3 (plainElem Tryz.prog 3) m ns.length D ∧ ∀ t, I64 t → D.atKey (keyI t) (.lit (.int .i64 0)) = .lit (.int .i64 (ns.count t))
 ne : rb ≠ m ∧ xb ≠ m ∧ mb ≠ m ∧ rb ≠ xb ∧ rb ≠ mb
theorem zeroI (w : World) : (zeroValue 3).run Tryz.prog w = .ok (.int .i64 0) w := by kernel_rfl
theorem MBox.below {w w' : World} {rb xb mb m : Nat} {next : Int} {ns : List Int} (h : MBox w rb xb mb m next ns) (hb : Below w.heap.size w w') : MBox w' rb xb mb m next ns := by
 obtain ⟨⟨r, h1, h2⟩, h3, h4, ⟨D, h5, h6⟩, h7⟩ := h
 exact ⟨⟨r, (hb.block _ (Zb h1)).trans h1, h2⟩, (hb.block _ (Zb h3)).trans h3, (hb.block _ (Zb h4)).trans h4, ⟨D, (Fp.of_below (S := fun _ => False) hb).ownMap h5 (fun h => h), h6⟩, h7⟩
set_option maxRecDepth 100000 in
set_option maxHeartbeats 8000000 in
theorem Zmm {ρ : Roles} {q : Int} {nb rb xb mb m : Nat} {next : Int} {ns : List Int} (n : PN) (k : Nat) (c : PC) (w : World) (hT : MBox w rb xb mb m next ns) (hC : ClsAt ρ w q nb c) (hi : I64 c.served) (hl : ns.length < 100000) :
 Calls Tryz.prog 52 #[.pointer (some ⟨n.blk, 0, none⟩), .int .i64 k, .pointer (some ⟨c.blk, 0, none⟩), .pointer (some ⟨rb, 0, none⟩), .pointer (some ⟨xb, 0, none⟩), .pointer (some ⟨mb, 0, none⟩)] w
  fun e w' => e = .returned (.tuple #[]) ∧ MBox w' rb xb mb m next (ns ++ [c.served]) ∧ Fp (fun j => j = rb ∨ j = m) w w' := by
 obtain ⟨⟨r, h1, h2⟩, h3, h4, ⟨D, h5, h6⟩, h7⟩ := hT
 have H1 := Lib.hid h1
 have H2 := Lib.hid h2
 have H3 := Lib.hid h3
 have H4 := Lib.hid h4
 have H5 := Lib.hid h5
 have H6 := Lib.hid h6
 have H7 := Lib.hid h7
 have HL := Lib.hid hl
 have HI := Lib.hid hi
 have HCB := Lib.hid hC.blk
 have c0 : w.cell? ⟨c.blk, 0, none⟩ = some (.int .i64 c.served) := Za hC.blk rfl
 have r0 : w.cell? ⟨rb, 0, none⟩ = some (.bool r) := Za h1 rfl
 have rf : w.frozen? ⟨rb, 0, none⟩ = false := Zd h1
 have x0 : w.cell? ⟨xb, 0, none⟩ = some (.int .i64 next) := Za h3 rfl
 have m0 : w.cell? ⟨mb, 0, none⟩ = some (.map (some m)) := Za h4 rfl
 obtain ⟨cn, hrun, hat, hwc⟩ := (World.ownsMap.drew h5).lookup_int keyT Tryz.underlying107 Tryz.underlying3 (zeroI _) (Zbt hi)
 have hcn : cn = ns.count c.served := by
  have h := h6 c.served hi
  rw [hat] at h
  simpa using h
 have HCN := Lib.hid hcn
 clear h1 h2 h3 h4 h5 h6 h7 hC hi hl hat hwc hcn
 have hcs : r = false ∨ (r = true ∧ ¬ 0 ≤ c.served) ∨ (r = true ∧ 0 ≤ c.served ∧ ¬ c.served < next) ∨ (r = true ∧ 0 ≤ c.served ∧ c.served < next) := by
  cases r
  ·exact .inl rfl
  ·by_cases h1 : 0 ≤ c.served
   ·by_cases h2 : c.served < next
    ·exact .inr (.inr (.inr ⟨rfl, h1, h2⟩))
    ·exact .inr (.inr (.inl ⟨rfl, h1, h2⟩))
   ·exact .inr (.inl ⟨rfl, h1⟩)
 go_enter Tryz.func52, Tryz.ntmps52
 go_upto_region 0 with fail
 go_cut [] (fun wx => ∃ r' : Bool, (r' = true ↔ Zc1 next (ns ++ [c.served])) ∧ wx = (w.setCell ⟨rb, 0, none⟩ (.bool r')).drew)
 case first =>
  rcases hcs with rfl | ⟨rfl, g1⟩ | ⟨rfl, g1, g2⟩ | ⟨rfl, g1, g2⟩
  ·go_region
   all_goals
    clear hrun
    go_wp2_with fail
    go_meet
    exact ⟨false, ⟨fun h => (by cases h), fun h => absurd (H2.out.2 (Zcp.1 h).1) (by decide)⟩, rfl⟩
  ·go_region
   all_goals
    clear hrun
    go_wp2_with fail
    go_meet
    exact ⟨false, ⟨fun h => (by cases h), fun h => by have := (Zcp.1 h).2.1; omega⟩, rfl⟩
  ·go_region
   all_goals
    clear hrun
    go_wp2_with fail
    go_meet
    exact ⟨false, ⟨fun h => (by cases h), fun h => by have := (Zcp.1 h).2.1; omega⟩, rfl⟩
  ·go_region
   all_goals
    clear hrun
    go_wp2_with fail
    go_meet
    refine ⟨(cn == 0), ?_, rfl⟩
    rw [Zcp, beq_iff_eq, HCN.out]
    exact ⟨fun h => ⟨H2.out.1 (by simp), ⟨g1, g2⟩, by omega⟩, fun h => by rw [h.2.2]; rfl⟩
 case rest =>
  obtain ⟨r', hr', hw⟩ := hcut
  have HR' := Lib.hid hr'
  have hF : Fp (fun j => j = rb) w wc := by rw [hw]; exact ((Fp.refl (fun j => j = rb) w).setCell (p := ⟨rb, 0, none⟩) (fun _ => rfl) _).then_below ⟨rfl, rfl, rfl, Nat.le_refl _, fun _ _ => rfl⟩
  have h1' : wc.heap[rb]? = some (.cells #[.bool r'] 4 (0, 0)) := by rw [hw]; exact Ze H1.out
  have h3' := hF.heap H3.out (fun e => H7.out.2.2.2.1 e.symm)
  have h4' := hF.heap H4.out (fun e => H7.out.2.2.2.2 e.symm)
  have hcb' : wc.heap[c.blk]? = some (pcO c) := hF.heap HCB.out (fun e => by have h := HCB.out; rw [e, H1.out] at h; cases h)
  have h5' : wc.ownsMap Tryz.prog 3 (plainElem Tryz.prog 3) m ns.length D := hF.ownMap H5.out (fun e => H7.out.1 e.symm)
  have c0' : wc.cell? ⟨c.blk, 0, none⟩ = some (.int .i64 c.served) := Za hcb' rfl
  have m0' : wc.cell? ⟨mb, 0, none⟩ = some (.map (some m)) := Za h4' rfl
  have HF := Lib.hid hF
  have HB := Lib.hid (And.intro h1' (And.intro h3' h4'))
  clear hr' hw hF h1' h3' h4' hcb' c0 r0 rf x0 m0 hrun hcs
  obtain ⟨cn', hrun, hat, hwc⟩ := (World.ownsMap.drew h5').lookup_int keyT Tryz.underlying107 Tryz.underlying3 (zeroI _) (Zbt HI.out)
  have hcn' : cn' = ns.count c.served := by
   have h := H6.out c.served HI.out
   rw [hat] at h
   simpa using h
  have hkl : ns.count c.served ≤ ns.length := List.count_le_length
  have hll := HL.out
  have hcb1 : 0 ≤ cn' ∧ cn' < 200000 := by omega
  have HCN2 := Lib.hid hcn'
  obtain ⟨w9, hrun2, hm9, hg9⟩ := (World.ownsMap.drew h5').update keyT Tryz.underlying107 (by unfold maxLen; omega) (Zbt HI.out) (plainElem_int (a := cn' + 1) Tryz.underlying3 (WalkArith.wf_i64 (by omega)))
  have hwr : IntKind.i64.wrap (cn' + 1) = cn' + 1 := IntWalk.i64_in _ (by omega)
  have HM9 := Lib.hid hm9
  have HG9 := Lib.hid hg9
  have HH5 := Lib.hid h5'
  clear hat hwc hcn' hkl hll hm9 hg9 h5'
  go_upto_region 1 with fail
  go_region
  all_goals
   clear hrun hrun2 hwr
   go_wp2_with fail
   refine bodyPost_end (results_none rfl _ _ _) rfl ⟨rfl, ?_, ?_⟩
   ·have hF9 : Fp (fun j => j = m) wc w9 := (Fp.of_below (show Below wc.heap.size wc wc.drew from ⟨rfl, rfl, rfl, Nat.le_refl _, fun _ _ => rfl⟩)).grown HG9.out (fun k _ e => (by simpa using e.symm))
    refine ⟨⟨r', hF9.heap HB.out.1 H7.out.1, HR'.out⟩, hF9.heap HB.out.2.1 H7.out.2.1, hF9.heap HB.out.2.2 H7.out.2.2.1, ⟨_, by rw [List.length_append]; exact HM9.out, fun t ht => ?_⟩, H7.out⟩
    by_cases e : t = c.served
    ·subst e
     rw [Maps.atKey_put_same HH5.out.isMap (Zgu _), List.count_append, List.count_singleton_self, HCN2.out]
     rfl
    ·rw [Maps.atKey_put_other (Zdm e), H6.out t ht, List.count_append]
     have h0 : List.count t [c.served] = 0 := List.count_eq_zero.2 (by simpa using e)
     rw [h0]
     rfl
   ·exact (HF.out.mono (fun _ e => .inl e)).trans ((Fp.of_below (show Below wc.heap.size wc wc.drew from ⟨rfl, rfl, rfl, Nat.le_refl _, fun _ _ => rfl⟩)).grown HG9.out (fun k _ e => (by simpa using e.symm)) : Fp (fun j => j = m) wc w9) (fun _ _ e => .inr e)
section
variable {ρ : Roles} {P : Nat} {x : PX} {nx next : Int} {v : Value} {L : List PN} {rb xb mb m : Nat}
set_option maxRecDepth 100000 in
set_option maxHeartbeats 4000000 in
theorem Zlb (w : World) (hS : PoolAt ρ w P x nx v L) (hf : L.length ≤ 1000 ∧ x.classes ≤ 10) (hi : ∀ t ∈ sv L, I64 t) (hT : MBox w rb xb mb m next []) (hb : ρ rb = []) (hm : ρ m = []) :
 Calls Tryz.prog 34 #[.pointer (some ⟨P, 0, none⟩), .func (.func 52) #[] #[.pointer (some ⟨rb, 0, none⟩), .pointer (some ⟨xb, 0, none⟩), .pointer (some ⟨mb, 0, none⟩)]] w
  fun e w' => e = .returned (.tuple #[]) ∧ MBox w' rb xb mb m next (sv L) ∧ Fp (fun j => j = rb ∨ j = m) w w' := by
 have HSF := Lib.hid (show ∀ w', Fp (fun j => j = rb ∨ j = m) w w' → PoolAt ρ w' P x nx v L from fun w' hF => hS.boxes hF (fun j e => e.elim (fun e => e ▸ hb) (fun e => e ▸ hm)))
 have HT := Lib.hid hT
 have HI := Lib.hid hi
 have HF := Lib.hid hf
 have c4 : w.cell? ⟨P, 4, none⟩ = some v := Za hS.head rfl
 obtain ⟨a, cap, rfl, -⟩ := hS.form
 have HLN := Lib.hid (show ∀ K, K ≤ L.length → (sv (L.take K)).length = K * x.classes from fun K => by
  induction K with
  | zero => intro _; simp [sv]
  | succ K ih =>
    intro hK
    obtain ⟨n, hn⟩ : ∃ n, L[K]? = some n := ⟨_, List.getElem?_eq_getElem hK⟩
    rw [List.take_add_one, hn, Zc9, List.length_append, ih (by omega)]
    simp [sv, (hS.need K n hn).len, Nat.add_mul])
 clear hS hf hi hT hb hm
 go_enter Tryz.func34, Tryz.ntmps34
 have hfew := HF.out.1
 go_wp2_with fail
 go_loopg [13] L.length (fun g i wr => ∃ K : Nat, g = L.length - K ∧ i = .int .i64 K ∧ K ≤ L.length ∧ MBox wr rb xb mb m next (sv (L.take K)) ∧ Fp (fun j => j = rb ∨ j = m) w wr)
 case atStart => exact ⟨0, rfl, rfl, Nat.zero_le _, HT.out, Fp.refl _ _⟩
 case round =>
  obtain ⟨K, hg, rfl, hK, hT, hF⟩ := hrel
  have HG := Lib.hid hg
  have HTK := Lib.hid hT
  have HFK := Lib.hid hF
  clear hg hT hF
  by_cases hlt : K < L.length
  ·obtain ⟨n, hn⟩ : ∃ n, L[K]? = some n := ⟨_, List.getElem?_eq_getElem hlt⟩
   have HN := Lib.hid hn
   have hSK := HSF.out wr HFK.out
   obtain ⟨g, off, cap', hv, d0⟩ := hSK.at hn
   cases hv
   have hNK := hSK.need K n hn
   obtain ⟨a2, cap2, hcv, -⟩ := hNK.form
   have HCV := Lib.hid hcv
   have n2 : wr.cell? ⟨n.blk, 2, none⟩ = some (.slice a2 n.cls.length cap2) := by rw [← hcv]; exact Za hNK.blk rfl
   have HNL := Lib.hid hNK.len
   have hnl : n.cls.length ≤ 10 := by rw [hNK.len]; exact HF.out.2
   have hKl : (K : Int) < (L.length : Int) := by omega
   have HSV := Lib.hid (show sv (L.take (K + 1)) = sv (L.take K) ++ n.cls.map PC.served by rw [List.take_add_one, hn, Zc9]; simp [sv])
   have HIN := Lib.hid (show ∀ c ∈ n.cls, I64 c.served from fun c hc => HI.out c.served (List.mem_flatMap.2 ⟨n, List.mem_of_getElem? hn, List.mem_map_of_mem hc⟩))
   clear hn hSK hNK hcv
   go_wp2_with fail
   clear d0 n2
   go_loopg [22] n.cls.length (fun g i wr => ∃ J : Nat, g = n.cls.length - J ∧ i = .int .i64 J ∧ J ≤ n.cls.length ∧ MBox wr rb xb mb m next (sv (L.take K) ++ (n.cls.take J).map PC.served) ∧ Fp (fun j => j = rb ∨ j = m) w wr)
   case atStart => exact ⟨0, rfl, rfl, Nat.zero_le _, by simpa using HTK.out, HFK.out⟩
   case round =>
    obtain ⟨J, hg, rfl, hJ, hT, hF⟩ := hrel
    have HG2 := Lib.hid hg
    have HTJ := Lib.hid hT
    have HFJ := Lib.hid hF
    clear hg hT hF
    by_cases hlj : J < n.cls.length
    ·obtain ⟨c, hc⟩ : ∃ c, n.cls[J]? = some c := ⟨_, List.getElem?_eq_getElem hlj⟩
     have HC := Lib.hid hc
     have hNJ := (HSF.out wr HFJ.out).need K n HN.out
     obtain ⟨g2, off2, cap2', hv2, d1⟩ := hNJ.at hc
     rw [HCV.out] at hv2
     cases hv2
     have hJl : (J : Int) < (n.cls.length : Int) := by omega
     have HNJ := Lib.hid hNJ
     have HSM := Lib.hid (show sv (L.take K) ++ (n.cls.take (J + 1)).map PC.served = (sv (L.take K) ++ (n.cls.take J).map PC.served) ++ [c.served] by rw [List.take_add_one, hc, List.map_append, List.append_assoc]; rfl)
     have HLB := Lib.hid (show (sv (L.take K) ++ (n.cls.take J).map PC.served).length < 100000 by
      have h1 := Nat.mul_le_mul (show K ≤ 1000 by omega) HF.out.2
      rw [List.length_append, HLN.out K hK, List.length_map, List.length_take]
      omega)
     clear hc hNJ
     go_wp2_with fail
     refine (Zmm (ρ := ρ) (q := x.q) (nb := n.blk) n J c wr HTJ.out (HNJ.out.cls J c HC.out) (HIN.out c (List.mem_of_getElem? HC.out)) HLB.out).mono ?_
     rintro e w1 ⟨rfl, hT1, hF1⟩
     rw [← HSM.out] at hT1
     have HT1 := Lib.hid hT1
     have HF1 := Lib.hid (HFJ.out.trans hF1 (fun _ _ h => h))
     clear hT1 hF1 d1
     go_wp2_with fail
     go_roundg (n.cls.length - (J + 1))
     case rel => exact ⟨J + 1, rfl, by go_num, by omega, HT1.out, HF1.out⟩
     case measure => have := HG2.out; omega
    ·obtain rfl : J = n.cls.length := by omega
     have HT1 := Lib.hid (by have h := HTJ.out; rw [List.take_length, ← HSV.out] at h; exact h : MBox wr rb xb mb m next (sv (L.take (K + 1))))
     go_wp2_with fail
     go_roundg (L.length - (K + 1))
     case rel => exact ⟨K + 1, rfl, by go_num, by omega, HT1.out, HFJ.out⟩
     case measure => have := HG.out; omega
  ·obtain rfl : K = L.length := by omega
   have HT1 := Lib.hid (by have h := HTK.out; rw [List.take_length] at h; exact h : MBox wr rb xb mb m next (sv L))
   go_wp2_with fail
   exact bodyPost_end (results_none rfl _ _ _) rfl ⟨rfl, HT1.out, HFK.out⟩
end
end Go.Proofs.YtdbjihkgafhakaaGreatDoor
