/-
 pool.Load: the walk.
 law17: back: the walk.
 law17: quanta: the walk; a need's row that came in, whatever quanta it has.
-/
import Derived.Test.YtdbjihkgafhakaaGreatDoorSl25
import Derived.Test.YtdbjihkgafhakaaGreatDoorSl13
import Derived.Test.YtdbjihkgafhakaaGreatDoorSl24
namespace Go.Proofs.YtdbjihkgafhakaaGreatDoor
open Go.RowKit Go.Sort
theorem Zn3 {ρ ρ' : Roles} {w w3 wr W w9 w10 : World} {P nb : Nat} {x : PX} {next : Int} {v v9 : Value} {L : List PN} {A : AR} {n : PN} (hp : PoolAt ρ w P x next v L) (h : LSt ρ w w3 x.q A nb x.classes ρ' n wr)
 (hW : W = wr.alloc (.cells #[.pointer (some ⟨nb, 0, none⟩)] 72)) (hA : ArrIn 72 w9 v9 (L.map PN.blk ++ [nb])) (hg : W.grownBy w9 v.ownBlock) (hat : v9.ownBlock = v.ownBlock ∨ v9.ownBlock = some W.heap.size) (hw : w10 = w9.setCell ⟨P, 4, none⟩ v9) :
 ∃ ρ2, PoolAt ρ2 w10 P x next v9 (L ++ [n]) ∧ Later ρ ρ2 w ∧ ZA ρ2 [0] w.heap.size ∧ (∀ j, w10.heap.size ≤ j → ρ2 j = []) ∧ Fp (Part ρ [0]) w w10 := by
 have hnb : n.blk = nb := h.blk
 have hL : ∀ m ∈ L, m.blk ≠ nb := fun m hm e => by
  obtain ⟨i, hi⟩ := List.getElem?_of_mem hm
  have h1 := Zb (hp.need i m hi).blk
  have := h.low
  omega
 have hpr := (hp.later h.later).below h.below
 have hbW : Below wr.heap.size wr W := by rw [hW]; exact box_below
 have zW : W.heap.size = wr.heap.size + 1 := by rw [hW]; simp
 have hFg : Fp (fun j => v.ownBlock = some j) W w9 := (Fp.refl _ W).grown hg (fun _ _ e => e)
 have z4 := hFg.size
 have hF10 : Fp (fun j => j = P) w9 w10 := by rw [hw]; exact (Fp.refl (fun j => j = P) w9).setCell (p := ⟨P, 4, none⟩) (fun _ => rfl) _
 have z5 := hF10.size
 have hl : Later ρ' (ZaK ρ' W.heap.size v9) wr := fun j hj => by
  unfold ZaK
  rw [if_neg (by omega)]
 have hpW := (hpr.later hl).below hbW
 have hv3 : ∀ j, v.ownBlock = some j → ZaK ρ' W.heap.size v9 j = [0, 3] := fun j hj => hpW.arole j hj
 have hP9 := hFg.heap hpW.head (fun e => by have h1 := hv3 P e; rw [hpW.role] at h1; simp at h1)
 have hh : w10.heap[P]? = some (ppO x next v9) := by rw [hw]; exact Ze hP9
 have hN9 : NeedAt (ZaK ρ' W.heap.size v9) w9 x.q x.classes n := (((h.need.later hl).frame (Fp.of_below (S := fun _ => False) hbW) (fun _ _ _ e => e))).frame hFg (fun j _ hp e => by
  have h1 := hv3 j e
  rcases hp with e1 | e1 | e1 | ⟨c, _, t, e1⟩ <;> · rw [h1] at e1; simp at e1)
 refine ⟨ZaK ρ' W.heap.size v9, hpW.join hN9 (fun m hm => by rw [hnb]; exact hL m hm) hFg (by rw [List.map_append, List.map_cons, List.map_nil, hnb]; exact hA) (fun j hj => ?_) hF10 hh, fun j hj => ?_, fun j hj => ?_, fun j hj => ?_, ?_⟩
 ·rcases hat with e1 | e1
  ·rw [e1] at hj
   exact hv3 j hj
  ·have hju : j = W.heap.size := by rw [e1] at hj; simpa using hj.symm
   unfold ZaK
   rw [if_pos ⟨hju, e1⟩]
 ·rw [hl j (Nat.lt_of_lt_of_le hj h.below.size)]
  exact h.later j hj
 ·by_cases e : j = W.heap.size ∧ v9.ownBlock = some W.heap.size
  ·exact .inr ⟨[3], by show (if j = W.heap.size ∧ v9.ownBlock = some W.heap.size then ([0, 3] : List Int) else ρ' j) = _; rw [if_pos e]; rfl⟩
  ·rcases h.news j hj with e2 | ⟨t, e2⟩
   ·exact .inl (by show (if j = W.heap.size ∧ v9.ownBlock = some W.heap.size then ([0, 3] : List Int) else ρ' j) = _; rw [if_neg e]; exact e2)
   ·exact .inr ⟨t, by show (if j = W.heap.size ∧ v9.ownBlock = some W.heap.size then ([0, 3] : List Int) else ρ' j) = _; rw [if_neg e]; exact e2⟩
 ·have hv9 : ∀ i, v9.ownBlock = some i → i < w9.heap.size := hA.lt
  unfold ZaK
  rw [if_neg (fun e => by have := hv9 _ e.2; omega)]
  exact h.far j (by omega)
 ·have hin : ∀ {j : Nat} {r : List Int}, j < w.heap.size → ρ' j = 0 :: r → Part ρ [0] j := fun {j r} hj e => ⟨r, by rw [← h.later j hj, e]; rfl⟩
  refine (((Fp.of_below h.below).then_below hbW).trans hFg (fun j hj e => ?_)).trans hF10 (fun j hj e => ?_)
  ·exact hin hj (hpr.arole j e)
  ·exact hin hj (by rw [e]; exact hpr.role)
structure LR where
 r : PR
 A : AR
 sh : List (Value × List TV)
def encLR (t : LR) : List Value := encPR t.r
theorem Zmn (t : LR) : (encLR t).length = 5 := rfl
def Zcx (a m q next : Int) (A : List AR) : Prop := (1 ≤ a ∧ 1 ≤ m ∧ 1 ≤ q ∧ q ≤ 64 ∧ (A.length : Int) ≤ a ∧ 0 ≤ next) ∧ (∀ (i : Nat) z, A[i]? = some z → 1 ≤ z.uses ∧ (∀ y ∈ A.take i, y.name ≠ z.name) ∧ (z.served.length : Int) = m ∧ (z.sh.length : Int) = m ∧ ∀ s ∈ z.sh, okTL q s.1 s.2) ∧ Zc1 next (A.flatMap AR.served)
def ZcJ (a m q next : Int) (A : List AR) (w : World) (e : Ending) (w' : World) : Prop :=
 Below w.heap.size w w' ∧ ((Zcx a m q next A ∧ ∃ P mm v ρ L, m = (mm : Nat) ∧ e = .returned (.tuple #[.pointer (some ⟨P, 0, none⟩), .bool true]) ∧ PlState w P ⟨a, mm, q⟩ next v L ρ w' ∧ L.map PN.abs = A ∧ ∀ j, w'.heap.size ≤ j → ρ j = []) ∨ (¬ Zcx a m q next A ∧ e = .returned (.tuple #[.pointer none, .bool false])))
theorem Zgr {L : List PN} {A : List AR} (h : L.map PN.abs = A) (s : ByteArray) : ZR s L = -1 ↔ ∀ y ∈ A, y.name ≠ s := by
 subst h
 constructor
 ·intro hp y hy
  obtain ⟨n, hn, rfl⟩ := List.mem_map.1 hy
  rcases ZcT s L with ⟨_, h⟩ | ⟨k, a, h, _, _⟩
  ·exact ZlX (h n hn)
  ·omega
 ·intro h
  rcases ZcT s L with ⟨h, _⟩ | ⟨k, a, _, ha, he⟩
  ·exact h
  ·exact absurd (Zih he) (h a.abs (List.mem_map_of_mem (List.mem_of_getElem? ha)))
theorem Zmo (L : List PN) : sv L = (L.map PN.abs).flatMap AR.served := by
 unfold sv
 rw [List.flatMap_map]
 rfl
set_option maxRecDepth 100000 in
set_option maxHeartbeats 4000000 in
theorem ZhD (a m q next : Int) (v : Value) (T : List LR) (w : World) (hv : ∃ la lc, v = .slice la T.length lc) (hno : ¬ (1 ≤ a ∧ 1 ≤ m ∧ 1 ≤ q ∧ q ≤ 64 ∧ (T.length : Int) ≤ a)) :
 Calls Tryz.prog 22 #[.int .i64 a, .int .i64 m, .int .i64 q, v, .int .i64 next] w (ZcJ a m q next (T.map LR.A) w) := by
 obtain ⟨la, lc, rfl⟩ := hv
 have HNO := Lib.hid (show ¬ Zcx a m q next (T.map LR.A) from fun h => hno (by have := h.1; rw [List.length_map] at this; omega))
 by_cases hn : 1 ≤ a ∧ 1 ≤ m ∧ 1 ≤ q ∧ q ≤ 64
 ·obtain ⟨mm, rfl⟩ : ∃ mm : Nat, m = mm := ⟨m.toNat, by omega⟩
  have ha : a < (T.length : Int) := by omega
  have HN := Lib.hid hn
  clear hno hn
  go_enter Tryz.func22, Tryz.ntmps22
  go_wp2_with fail
  refine (ZfE a q mm _ HN.out.1 (by have := HN.out; omega) HN.out.2.2.1 HN.out.2.2.2).mono ?_
  rintro e w2 ⟨rfl, hb2, -⟩
  have HB2 := Lib.hid (box_below.trans (hb2.mono (by simp)) : Below w.heap.size w w2)
  clear hb2
  go_wp2_with fail
  exact bodyPost_ret (v := .tuple #[.pointer none, .bool false]) (by simp [results, Tryz.results22, go_sem]) rfl ⟨HB2.out, .inr ⟨HNO.out, rfl⟩⟩
 ·clear hno
  go_enter Tryz.func22, Tryz.ntmps22
  go_wp2_with fail
  refine (Znc a m q _ hn).mono ?_
  rintro e w2 ⟨rfl, hb2⟩
  have HB2 := Lib.hid (box_below.trans (hb2.mono (by simp)) : Below w.heap.size w w2)
  clear hb2
  go_wp2_with fail
  exact bodyPost_ret (v := .tuple #[.pointer none, .bool false]) (by simp [results, Tryz.results22, go_sem]) rfl ⟨HB2.out, .inr ⟨HNO.out, rfl⟩⟩
theorem MBox.fp {S : Nat → Prop} {w w' : World} {rb xb mb m : Nat} {next : Int} {ns : List Int} (h : MBox w rb xb mb m next ns) (hF : Fp S w w') (h1 : ¬ S rb) (h2 : ¬ S xb) (h3 : ¬ S mb) (h4 : ¬ S m) : MBox w' rb xb mb m next ns := by
 obtain ⟨⟨r, g1, g2⟩, g3, g4, ⟨D, g5, g6⟩, g7⟩ := h
 exact ⟨⟨r, hF.heap g1 h1, g2⟩, hF.heap g3 h2, hF.heap g4 h3, ⟨D, hF.ownMap g5 h4, g6⟩, g7⟩
def Zoj (m q : Int) (A : List AR) (i : Nat) (z : AR) : Prop := 1 ≤ z.uses ∧ (∀ y ∈ A.take i, y.name ≠ z.name) ∧ (z.served.length : Int) = m ∧ (z.sh.length : Int) = m ∧ ∀ s ∈ z.sh, okTL q s.1 s.2
structure LdS (w : World) (P rb xb mb mp : Nat) (x : PX) (next : Int) (A : List AR) (k : Nat) (ρ : Roles) (v : Value) (L : List PN) (wr : World) : Prop where
 pool : PoolAt ρ wr P x 0 v L
 abs : L.map PN.abs = A.take k
 below : Below w.heap.size w wr
 old : ∀ j, j < w.heap.size → ρ j = []
 far : ∀ j, wr.heap.size ≤ j → ρ j = []
 box : MBox wr rb xb mb mp next []
 roles : ρ rb = [] ∧ ρ xb = [] ∧ ρ mb = [] ∧ ρ mp = []
 ok : ∀ (i : Nat) z, i < k → A[i]? = some z → Zoj x.classes x.q A i z
 low : w.heap.size ≤ P
 lows : w.heap.size ≤ rb ∧ w.heap.size ≤ mp
set_option maxRecDepth 100000 in
set_option maxHeartbeats 16000000 in
theorem ZiC (a q next : Int) (m : Nat) (v : Value) (T : List LR) (w : World) (hv : SlAt w v T.length (T.flatMap encLR)) (hT : ∀ t ∈ T, PVAt w t.r t.A t.sh ∧ ShOk t.sh ∧ ∀ s ∈ t.A.served, I64 s) (hlen : T.length ≤ 1000) (hm : m ≤ 10) (hh : 1 ≤ a ∧ 1 ≤ m ∧ 1 ≤ q ∧ q ≤ 64 ∧ (T.length : Int) ≤ a) :
 Calls Tryz.prog 22 #[.int .i64 a, .int .i64 m, .int .i64 q, v, .int .i64 next] w (ZcJ a m q next (T.map LR.A) w) := by
 have HV := Lib.hid hv
 have HT := Lib.hid hT
 have HN := Lib.hid (And.intro hlen (And.intro hm hh))
 obtain ⟨la, lc, rfl, -⟩ := hv.form
 have ha : ¬ a < (T.length : Int) := by omega
 clear hv hT hlen hm hh
 have hmm := @run_makeMap Tryz.prog
 go_enter Tryz.func22, Tryz.ntmps22
 go_upto_region 1 with fail
 obtain ⟨w1, hw1⟩ : ∃ w1 : World, w1 = w.alloc (.cells #[.int .i64 next] 3) := ⟨_, rfl⟩
 obtain ⟨xb, hxb⟩ : ∃ xb : Nat, xb = w.heap.size := ⟨_, rfl⟩
 rw [← hw1, ← hxb]
 have HX1 := Lib.hid (show w1.heap[xb]? = some (.cells #[.int .i64 next] 3 (0, 0)) by rw [hw1, hxb]; exact Zf)
 have HB1 := Lib.hid (show Below w.heap.size w w1 ∧ w1.heap.size = w.heap.size + 1 by rw [hw1]; exact ⟨box_below, by simp⟩)
 have HXB := Lib.hid hxb
 clear hw1 hxb
 go_wp2_with fail
 refine (ZfE a q m w1 HN.out.2.2.1 (by have := HN.out; omega) (by have := HN.out; omega) (by have := HN.out; omega)).mono ?_
 rintro e w2 ⟨rfl, hb2, hp2⟩
 have HB2 := Lib.hid (HB1.out.1.trans (hb2.mono HB1.out.1.size))
 have HP2 := Lib.hid hp2
 have HX2 := Lib.hid ((hb2.block _ (Zb HX1.out)).trans HX1.out)
 obtain ⟨P, hP⟩ : ∃ P : Nat, P = w1.heap.size + 2 := ⟨_, rfl⟩
 rw [← hP] at HP2
 rw [← hP]
 have HPL := Lib.hid (show w.heap.size ≤ P ∧ P = w1.heap.size + 2 by have := HB1.out.2; omega)
 clear hb2 hp2 hP
 go_upto_region 6 with fail
 clear hmm
 obtain ⟨w3, hw3⟩ : ∃ w3 : World, w3 = ((w2.alloc (.map #[] 0)).alloc (.cells #[.map (some w2.heap.size)] 107)).alloc (.cells #[.bool true] 4) := ⟨_, rfl⟩
 rw [← hw3]
 obtain ⟨mp, hmp⟩ : ∃ mp : Nat, mp = w2.heap.size := ⟨_, rfl⟩
 rw [← hmp] at hw3 ⊢
 obtain ⟨rb, hrb⟩ : ∃ rb : Nat, rb = mp + 1 + 1 := ⟨_, rfl⟩
 rw [← hrb]
 obtain ⟨mb, hmb⟩ : ∃ mb : Nat, mb = mp + 1 := ⟨_, rfl⟩
 rw [← hmb]
 have HS0 := Lib.hid (show LdS w P rb xb mb mp ⟨a, m, q⟩ next (T.map LR.A) 0 (ZcV w1) (.slice none 0 0) [] w3 from by
  have hPlt : P < w2.heap.size := Zb HP2.out.head
  have hxlt : xb < w2.heap.size := Zb HX2.out
  have hb3 : Below w2.heap.size w2 w3 := by rw [hw3]; exact (box_below.alloc (by simp) _).alloc (by simp; omega) _
  have hz3 : w3.heap.size = mp + 3 := by rw [hw3, hmp]; simp
  have h1 := HB1.out.2
  have h2 := HPL.out
  have h3 := HXB.out
  have hnr : ∀ j, j ≠ P → ZcV w1 j = [] := fun j hj => by unfold ZcV; rw [if_neg (by omega)]
  refine ⟨HP2.out.below hb3, rfl, HB2.out.trans (hb3.mono HB2.out.size), fun j hj => hnr j (by omega), fun j hj => hnr j (by omega), ⟨⟨true, ?_, ⟨fun _ => ⟨(fun t ht => by cases ht), List.nodup_nil⟩, fun _ => rfl⟩⟩, (hb3.block xb hxlt).trans HX2.out, ?_, ⟨.map [], ?_, fun t _ => rfl⟩, by omega, by omega, by omega, by omega, by omega⟩, ⟨hnr _ (by omega), hnr _ (by omega), hnr _ (by omega), hnr _ (by omega)⟩, fun i z hi => by omega, h2.1, ⟨by omega, by omega⟩⟩
  ·rw [hw3, show rb = ((w2.alloc (.map #[] 0)).alloc (.cells #[.map (some mp)] 107)).heap.size by simp; omega]
   exact Zf
  ·rw [hw3, show mb = (w2.alloc (.map #[] 0)).heap.size by simp; omega]
   exact Zi Zf
  ·rw [hw3, hmp]
   exact ((World.ownsMap_made w2 _ _ _).alloc _).alloc _)
 have HZ := Lib.hid (show xb < mp ∧ P < mp from by
  have hPlt : P < w2.heap.size := Zb HP2.out.head
  have hxlt : xb < w2.heap.size := Zb HX2.out
  omega)
 clear hw3 hmp hrb hmb
 have hlen := HN.out.1
 go_wp2_with fail
 go_loopg [34] T.length (fun g i wr => ∃ (k : Nat) (ρ : Roles) (v : Value) (L : List PN), g = T.length - k ∧ i = .int .i64 k ∧ k ≤ T.length ∧ LdS w P rb xb mb mp ⟨a, m, q⟩ next (T.map LR.A) k ρ v L wr)
 case atStart => exact ⟨0, _, _, _, rfl, rfl, Nat.zero_le _, HS0.out⟩
 case round =>
  obtain ⟨k, ρ, v, L, hg, rfl, hk, hS⟩ := hrel
  have HG := Lib.hid hg
  have HS := Lib.hid hS
  clear hg hS
  by_cases hlt : k < T.length
  ·obtain ⟨t, ht⟩ : ∃ t, T[k]? = some t := ⟨_, List.getElem?_eq_getElem hlt⟩
   obtain ⟨g, off, hla, hc1⟩ := (HV.out.below HS.out.below).cells Zmn (by decide) ht
   subst hla
   have HTA := Lib.hid (show (T.map LR.A)[k]? = some t.A by rw [List.getElem?_map, ht]; rfl)
   have HTT := Lib.hid (HT.out t (List.mem_of_getElem? ht))
   obtain ⟨⟨rn, ru, rsv, rhv, rgv⟩, A, sh⟩ := t
   have HPV := Lib.hid HTT.out.1
   obtain ⟨sa, sc, hsv, -⟩ := HPV.out.sv.form
   obtain ⟨ha', hc', hhv, -⟩ := HPV.out.hv.form
   obtain ⟨ga, gc, hgv, -⟩ := HPV.out.gv.form
   simp only at hsv hhv hgv
   subst hsv hhv hgv
   have HRG := Lib.hid (show wr.rangeAt g (off + k * 5) [.string rn, .int .i64 ru, .slice sa A.served.length sc, .slice ha' A.sh.length hc', .slice ga A.sh.length gc] from fun j u hu => hc1 j u hu)
   have hkl : (k : Int) < (T.length : Int) := by omega
   clear ht hc1
   go_upto_region 9 with (refine wpList_load_mid rfl 95 _ rfl g (off + k * 5) rfl [.string rn, .int .i64 ru, .slice sa A.served.length sc, .slice ha' A.sh.length hc', .slice ga A.sh.length gc] _ HRG.out Tryz.underlying95 rfl (pr_sz ⟨rn, ru, .slice sa A.served.length sc, .slice ha' A.sh.length hc', .slice ga A.sh.length gc⟩) ?_)
   obtain ⟨w4, hw4⟩ : ∃ w4 : World, w4 = wr.alloc (.cells #[.string rn, .int .i64 ru, .slice sa A.served.length sc, .slice ha' A.sh.length hc', .slice ga A.sh.length gc] 95) := ⟨_, rfl⟩
   obtain ⟨yb, hyb⟩ : ∃ yb : Nat, yb = wr.heap.size := ⟨_, rfl⟩
   rw [← hw4, ← hyb]
   have HY4 := Lib.hid (show w4.heap[yb]? = some (.cells #[.string rn, .int .i64 ru, .slice sa A.served.length sc, .slice ha' A.sh.length hc', .slice ga A.sh.length gc] 95 (0, 0)) by rw [hw4, hyb]; exact Zf)
   have hb4 : Below wr.heap.size wr w4 := by rw [hw4]; exact box_below
   have HB4 := Lib.hid hb4
   have HP4 := Lib.hid ((HS.out.pool.later (Zg ρ wr)).below hb4)
   have HLL := Lib.hid (show L.length = k from by
    have h := congrArg List.length HS.out.abs
    rw [List.length_map, List.length_take, List.length_map] at h
    omega)
   clear hw4 hyb hb4
   go_wp2_with (refine Zat (cs := #[.string rn, .int .i64 ru, .slice sa A.served.length sc, .slice ha' A.sh.length hc', .slice ga A.sh.length gc]) 95 HY4.out Tryz.underlying95 rfl (pr_sz ⟨rn, ru, .slice sa A.served.length sc, .slice ha' A.sh.length hc', .slice ga A.sh.length gc⟩) rfl _ rfl rfl ?_)
   refine (Zml ⟨rn, ru, .slice sa A.served.length sc, .slice ha' A.sh.length hc', .slice ga A.sh.length gc⟩ A sh w4 HP4.out (by have := HLL.out; omega) (by show m ≤ 1000; have := HN.out.2.1; omega) (HPV.out.below (HS.out.below.trans (HB4.out.mono HS.out.below.size))) HTT.out.2.1).mono ?_
   rintro e w5 ⟨hb5, ⟨hok, w3', nb, ρ2, n, rfl, hL5⟩ | ⟨hno, rfl⟩⟩
   ·have HOK := Lib.hid hok
    have HL5 := Lib.hid hL5
    have HB5 := Lib.hid hb5
    obtain ⟨av, capv, hvv, -⟩ := HP4.out.form
    have hp5 := HP4.out.below hb5
    have c4 : w5.cell? ⟨P, 4, none⟩ = some (.slice av L.length capv) := by rw [← hvv]; exact Za hp5.head rfl
    have HVV := Lib.hid hvv
    have HP5 := Lib.hid hp5
    have HARR := Lib.hid (show ∀ o, ArrIn 72 (w5.alloc o) (.slice av L.length capv) (L.map PN.blk) from fun o => by rw [← HVV.out]; exact hp5.arr.below box_below)
    have hnl : (L.map PN.blk).length < 1000000 := by rw [List.length_map, HLL.out]; have := HN.out.1; omega
    clear hok hL5 hb5 hvv hp5
    go_upto_region 13 with (refine Zax rfl _ _ 65 rfl 72 Tryz.underlying65 Zgg (v := .slice av L.length capv) (bs := L.map PN.blk) (by rfl) (by exact HARR.out _) w5.heap.size nb (by rfl) (by exact Za Zf rfl) hnl ?_; intro v9 w9 hA9 hg9 hat9; obtain ⟨a9, m9, c9, rfl⟩ : ∃ a m c, v9 = .slice a m c := (by obtain ⟨a3, c3, h3, -⟩ := hA9.form; exact ⟨a3, _, c3, h3⟩); (have hF9 := (Fp.refl (fun j => (Value.slice av L.length capv).ownBlock = some j) _).grown hg9 (fun _ _ e => e)); (have hP9 := hF9.heap (Zi HP5.out.head) (fun e => by rw [← HVV.out] at e; have h1 := HP5.out.arole P e; rw [HP5.out.role] at h1; simp at h1)); (have q1 : w9.cell? ⟨P, 4, none⟩ = some v := Za hP9 rfl); (have q3 : w9.frozen? ⟨P, 4, none⟩ = false := Zd hP9))
    obtain ⟨w10, hw10⟩ : ∃ w10 : World, w10 = w9.setCell ⟨P, 4, none⟩ (.slice a9 m9 c9) := ⟨_, rfl⟩
    rw [← hw10]
    have HJ := Lib.hid (Zn3 HP4.out HL5.out rfl hA9 (by rw [HVV.out]; exact hg9) (by rw [HVV.out]; exact hat9) hw10)
    clear hw10 hA9 hg9 hat9 hF9 hP9 q1 q3 c4 hnl
    have HS2 := Lib.hid (show ∃ ρ v L, LdS w P rb xb mb mp ⟨a, m, q⟩ next (T.map LR.A) (k + 1) ρ v L w10 from by
     obtain ⟨ρ3, h1, h2, h3, h4, h5⟩ := HJ.out
     have hF : Fp (Part ρ [0]) wr w10 := (Fp.of_below HB4.out).trans h5 (fun j hj e => by
      obtain ⟨s, hs⟩ := e
      exact ⟨s, by rw [← Zg ρ wr j hj]; exact hs⟩)
     have hlat : Later ρ ρ3 wr := fun j hj => (h2 j (Nat.lt_of_lt_of_le hj HB4.out.size)).trans (Zg ρ wr j hj)
     have hno : ∀ j, ρ j = [] → ¬ Part ρ [0] j := fun j hj ⟨s, hs⟩ => by rw [hj] at hs; simp at hs
     have hr := HS.out.roles
     obtain ⟨⟨r0, g1, -⟩, g2, g3, ⟨D0, g4, -⟩, -⟩ := HS.out.box
     refine ⟨ρ3, _, _, h1, ?_, HS.out.below.trans (hF.below HS.out.below.size (fun j hj => hno j (HS.out.old j hj))), fun j hj => (hlat j (Nat.lt_of_lt_of_le hj HS.out.below.size)).trans (HS.out.old j hj), h4, HS.out.box.fp hF (hno _ hr.1) (hno _ hr.2.1) (hno _ hr.2.2.1) (hno _ hr.2.2.2), ⟨(hlat _ (Zb g1)).trans hr.1, (hlat _ (Zb g2)).trans hr.2.1, (hlat _ (Zb g3)).trans hr.2.2.1, (hlat _ g4.lt).trans hr.2.2.2⟩, fun i z hi hz => ?_, HS.out.low, HS.out.lows⟩
     ·rw [List.map_append, HS.out.abs, List.take_add_one, HTA.out, List.map_singleton]
      congr 1
      have hn := HL5.out
      have ho := HOK.out
      have e1 : n.abs = A := by
       unfold PN.abs
       rw [hn.name, hn.uses, hn.served, hn.sh, List.take_of_length_le (by rw [ho.2.2.1]; exact Nat.le_refl _), List.take_of_length_le (by rw [ho.2.2.2.1]; exact Nat.le_refl _)]
      rw [e1]
      rfl
     ·rcases Nat.lt_or_ge i k with h | h
      ·exact HS.out.ok i z h hz
      ·obtain rfl : i = k := by omega
       obtain rfl := Option.some.inj (HTA.out.symm.trans hz)
       have ho := HOK.out
       exact ⟨ho.1, (Zgr HS.out.abs _).1 ho.2.1, congrArg Int.ofNat ho.2.2.1, congrArg Int.ofNat ho.2.2.2.1, ho.2.2.2.2⟩)
    have hlen := HN.out.1
    go_wp2_with fail
    go_roundg (T.length - (k + 1))
    case rel =>
     obtain ⟨ρ3, v3, L3, h3⟩ := HS2.out
     exact ⟨k + 1, ρ3, v3, L3, rfl, by go_num, by omega, h3⟩
    case measure => have := HG.out; omega
   ·have HNO := Lib.hid (show ¬ Zcx a m q next (T.map LR.A) from fun h => by
     obtain ⟨h1, h2, h3, h4, h5⟩ := h.2.1 k A HTA.out
     exact hno ⟨h1, (Zgr HS.out.abs _).2 h2, by exact Int.ofNat_inj.1 h3, by exact Int.ofNat_inj.1 h4, h5⟩)
    have HB5 := Lib.hid (HS.out.below.trans ((HB4.out.trans (hb5.mono HB4.out.size)).mono HS.out.below.size))
    clear hb5 hno
    go_wp2_with fail
    exact bodyPost_ret (v := .tuple #[.pointer none, .bool false]) (by simp [results, Tryz.results22, go_sem]) rfl ⟨HB5.out, .inr ⟨HNO.out, rfl⟩⟩
  ·obtain rfl : k = T.length := by omega
   have HAB := Lib.hid (show L.map PN.abs = T.map LR.A by rw [HS.out.abs]; exact List.take_of_length_le (by simp))
   have HLL := Lib.hid (show L.length ≤ 1000 by
    have h := congrArg List.length HAB.out
    rw [List.length_map, List.length_map] at h
    have := HN.out.1
    omega)
   go_wp2_with fail
   refine (Zlb (rb := rb) (xb := xb) (mb := mb) (m := mp) (next := next) wr HS.out.pool ⟨HLL.out, HN.out.2.1⟩ (fun s hs => by
    rw [Zmo, HAB.out] at hs
    obtain ⟨y, hy, hs⟩ := List.mem_flatMap.1 hs
    obtain ⟨t, ht, rfl⟩ := List.mem_map.1 hy
    exact (HT.out t ht).2.2 s hs) HS.out.box HS.out.roles.1 HS.out.roles.2.2.2).mono ?_
   rintro e w5 ⟨rfl, hM, hF5⟩
   obtain ⟨r, hr1, hr2⟩ := hM.right
   have hx5 := hM.nx
   have r0 : w5.cell? ⟨rb, 0, none⟩ = some (.bool r) := Za hr1 rfl
   have x0 : w5.cell? ⟨xb, 0, none⟩ = some (.int .i64 next) := Za hx5 rfl
   have HR2 := Lib.hid (show r = true ↔ Zc1 next ((T.map LR.A).flatMap AR.served) by rw [← HAB.out, ← Zmo]; exact hr2)
   have HP5 := Lib.hid (HS.out.pool.boxes hF5 (fun j e => e.elim (fun e => e ▸ HS.out.roles.1) (fun e => e ▸ HS.out.roles.2.2.2)))
   have hB5 : Below w.heap.size w w5 := HS.out.below.trans (hF5.below HS.out.below.size (fun j hj e => by
    have h1 := HS.out.lows
    rcases e with e | e <;> omega))
   have HB5 := Lib.hid hB5
   have hz5 := hF5.size
   have HFAR := Lib.hid (show ∀ j, w5.heap.size ≤ j → ρ j = [] from fun j hj => HS.out.far j (by omega))
   clear hM hF5 hr1 hr2 hx5 hB5 hz5
   rcases r with _ | _
   ·have HNO := Lib.hid (show ¬ Zcx a m q next (T.map LR.A) from fun h => absurd (HR2.out.2 h.2.2) (by decide))
    go_wp2_with fail
    exact bodyPost_ret (v := .tuple #[.pointer none, .bool false]) (by simp [results, Tryz.results22, go_sem]) rfl ⟨HB5.out, .inr ⟨HNO.out, rfl⟩⟩
   ·by_cases hnx : next < 0
    ·have HNO := Lib.hid (show ¬ Zcx a m q next (T.map LR.A) from fun h => by have := h.1.2.2.2.2.2; omega)
     go_wp2_with fail
     exact bodyPost_ret (v := .tuple #[.pointer none, .bool false]) (by simp [results, Tryz.results22, go_sem]) rfl ⟨HB5.out, .inr ⟨HNO.out, rfl⟩⟩
    ·have HNX := Lib.hid hnx
     have p3 : w5.cell? ⟨P, 3, none⟩ = some (.int .i64 0) := Za HP5.out.head rfl
     have f3 : w5.frozen? ⟨P, 3, none⟩ = false := Zd HP5.out.head
     go_wp2_with fail
     refine bodyPost_ret (v := .tuple #[.pointer (some ⟨P, 0, none⟩), .bool true]) (by simp [results, Tryz.results22, go_sem]) rfl ?_
     have hF6 : Fp (fun j => j = P) w5 (w5.setCell ⟨P, 3, none⟩ (.int .i64 next)) := (Fp.refl (fun j => j = P) w5).setCell (p := ⟨P, 3, none⟩) (fun _ => rfl) _
     have hB6 : Below w.heap.size w (w5.setCell ⟨P, 3, none⟩ (.int .i64 next)) := HB5.out.trans (hF6.below HB5.out.size (fun j hj e => by have := HS.out.low; omega))
     have hN := HN.out
     refine ⟨hB6, .inl ⟨⟨by rw [List.length_map]; omega, fun i z hz => HS.out.ok i z (by have := (List.getElem?_eq_some_iff.1 hz).1; rw [List.length_map] at this; exact this) hz, HR2.out.1 (by simp)⟩, P, m, v, ρ, L, rfl, rfl, ⟨HP5.out.head_set hF6 (Ze HP5.out.head), hB6, HS.out.old⟩, HAB.out, fun j hj => HFAR.out j (Nat.le_trans hF6.size hj)⟩⟩
theorem TIn17.setBox {base xb q : Nat} {w wr : World} {ov u : Value} {l : List TV} (h : TIn17 base w wr ov l) (hb : xb < base) : TIn17 base w (wr.setCell ⟨xb, q, none⟩ u) ov l :=
 ⟨RowKit.ownsRow_setCell_below h.own (by simpa using hb) _, fun p hp => ⟨RowKit.ownsRow_setCell_below (h.inv p hp).1 (by simpa using hb) _, (h.inv p hp).2⟩⟩
theorem TIn17.alloc {base : Nat} {w wr : World} {ov : Value} {l : List TV} (h : TIn17 base w wr ov l) (o : Obj) : TIn17 base w (wr.alloc o) ov l := ⟨h.own.alloc o, fun p hp => ⟨(h.inv p hp).1.alloc o, (h.inv p hp).2⟩⟩
structure PBx (w w0 : World) (xb : Nat) (p : QP) (j m : Nat) (wr : World) : Prop where
 cells : ∃ (hv gv : Value) (sh : List (Value × List TV)), wr.heap[xb]? = some (.cells (encPR ⟨p.name, p.uses, p.sv, hv, gv⟩).toArray 95 (0, 0)) ∧ wr.ownsRow (xb + 1) 101 1 hv j (sh.map Prod.fst) ∧ wr.ownsRow (xb + 1) 4 1 gv m ((p.sh.take m).map (fun y => Value.bool y.gv)) ∧ (∀ s ∈ sh, TIn17 (xb + 1) w wr s.1 s.2) ∧
  sh.map (fun (s : Value × List TV) => s.2.map Prod.fst) = (p.sh.take j).map (fun y => y.l.map Prod.fst) ∧ sh.map (fun (s : Value × List TV) => s.2.map (fun z => z.2.2)) = (p.sh.take j).map (fun y => y.l.map (fun d => d.2.2.2))
 below : Below w0.heap.size w0 wr
 lo : w0.heap.size ≤ xb
section
variable {w w0 wr w9 : World} {xb j m : Nat} {p : QP} {y : QS} {hv gv v9 : Value} {sh : List (Value × List TV)} {o : Obj}
theorem PBx.on (h : PBx w w0 xb p j m wr) (hb : Below wr.heap.size wr w9) : PBx w w0 xb p j m w9 := by
 obtain ⟨⟨hv, gv, sh, h1, h2, h3, h4, h5, h6⟩, hB, hlo⟩ := h
 exact ⟨⟨hv, gv, sh, (hb.block _ (Zb h1)).trans h1, Zk h2 hb, Zk h3 hb, fun s hs => (h4 s hs).below hb, h5, h6⟩, hB.trans (hb.mono hB.size), hlo⟩
theorem Zhf (h : PBx w w0 xb p j m wr) {u : Value} (hown : ∀ k, u.ownBlock = some k → xb + 1 ≤ k) (hg : (wr.alloc o).grownBy w9 u.ownBlock) (q : Nat) : Below w0.heap.size w0 (w9.setCell ⟨xb, q, none⟩ v9) := by
 have hlo := h.lo
 have hF : Fp (fun k => w0.heap.size ≤ k) wr (w9.setCell ⟨xb, q, none⟩ v9) := (((Fp.refl _ wr).alloc o).grown hg (fun k _ e => by have := hown k e; omega)).setCell (fun _ => hlo) _
 exact h.below.trans (hF.below h.below.size (fun k hk e => by omega))
theorem PBx.shares (h : PBx w w0 xb p j m wr) (hy : p.sh[j]? = some y) {s : Value × List TV} (hs : TIn17 (xb + 1) w wr s.1 s.2) (e1 : s.2.map Prod.fst = y.l.map Prod.fst) (e2 : s.2.map (fun z => z.2.2) = y.l.map (fun d => d.2.2.2))
 (hx : wr.heap[xb]? = some (.cells (encPR ⟨p.name, p.uses, p.sv, hv, gv⟩).toArray 95 (0, 0))) (h2 : wr.ownsRow (xb + 1) 101 1 hv j (sh.map Prod.fst)) (h3 : wr.ownsRow (xb + 1) 4 1 gv m ((p.sh.take m).map (fun y => Value.bool y.gv))) (h4 : ∀ s ∈ sh, TIn17 (xb + 1) w wr s.1 s.2)
 (h5 : sh.map (fun (s : Value × List TV) => s.2.map Prod.fst) = (p.sh.take j).map (fun y => y.l.map Prod.fst)) (h6 : sh.map (fun (s : Value × List TV) => s.2.map (fun z => z.2.2)) = (p.sh.take j).map (fun y => y.l.map (fun d => d.2.2.2)))
 (ho9 : w9.ownsRow (xb + 1) 101 1 v9 (j + 1) (sh.map Prod.fst ++ [s.1])) (hg : (wr.alloc o).grownBy w9 hv.ownBlock) : PBx w w0 xb p (j + 1) m (w9.setCell ⟨xb, 3, none⟩ v9) := by
 have hxl := Zb hx
 have hown : ∀ k, hv.ownBlock = some k → xb + 1 ≤ k := Zl h2
 have hx9 : w9.heap[xb]? = some (.cells (encPR ⟨p.name, p.uses, p.sv, hv, gv⟩).toArray 95 (0, 0)) := (hg.block xb (by simp; omega) (fun e => by have := hown xb e.symm; omega)).trans (Zi hx)
 refine ⟨⟨v9, gv, sh ++ [s], Ze hx9, ?_, RowKit.ownsRow_setCell_below (ZT (h3.alloc o) hg (ZG h3 h2 (by decide))) (by simp) _, fun z hz => ?_, ?_, ?_⟩, Zhf h hown hg 3, h.lo⟩
 ·rw [List.map_append]
  exact RowKit.ownsRow_setCell_below ho9 (by simp) _
 ·have hk : ∀ {ov : Value} {l : List TV}, TIn17 (xb + 1) w wr ov l → TIn17 (xb + 1) w (w9.setCell ⟨xb, 3, none⟩ v9) ov l := fun hT => ((hT.alloc o).grown (h2.alloc o) (by decide) (by decide) hg).setBox (by omega)
  rcases List.mem_append.1 hz with hz | hz
  ·exact hk (h4 z hz)
  ·rw [List.mem_singleton] at hz
   subst hz
   exact hk hs
 ·rw [List.map_append, h5, List.take_add_one, hy]
  simp [e1]
 ·rw [List.map_append, h6, List.take_add_one, hy]
  simp [e2]
theorem PBx.given (h : PBx w w0 xb p j m wr) (hy : p.sh[m]? = some y)
 (hx : wr.heap[xb]? = some (.cells (encPR ⟨p.name, p.uses, p.sv, hv, gv⟩).toArray 95 (0, 0))) (h2 : wr.ownsRow (xb + 1) 101 1 hv j (sh.map Prod.fst)) (h3 : wr.ownsRow (xb + 1) 4 1 gv m ((p.sh.take m).map (fun y => Value.bool y.gv))) (h4 : ∀ s ∈ sh, TIn17 (xb + 1) w wr s.1 s.2)
 (h5 : sh.map (fun (s : Value × List TV) => s.2.map Prod.fst) = (p.sh.take j).map (fun y => y.l.map Prod.fst)) (h6 : sh.map (fun (s : Value × List TV) => s.2.map (fun z => z.2.2)) = (p.sh.take j).map (fun y => y.l.map (fun d => d.2.2.2)))
 (ho9 : w9.ownsRow (xb + 1) 4 1 v9 (m + 1) ((p.sh.take m).map (fun y => Value.bool y.gv) ++ [.bool y.gv])) (hg : (wr.alloc o).grownBy w9 gv.ownBlock) : PBx w w0 xb p j (m + 1) (w9.setCell ⟨xb, 4, none⟩ v9) := by
 have hxl := Zb hx
 have hown : ∀ k, gv.ownBlock = some k → xb + 1 ≤ k := Zl h3
 have hx9 : w9.heap[xb]? = some (.cells (encPR ⟨p.name, p.uses, p.sv, hv, gv⟩).toArray 95 (0, 0)) := (hg.block xb (by simp; omega) (fun e => by have := hown xb e.symm; omega)).trans (Zi hx)
 refine ⟨⟨hv, v9, sh, Ze hx9, RowKit.ownsRow_setCell_below (ZT (h2.alloc o) hg (ZG h2 h3 (by decide))) (by simp) _, ?_, fun z hz => (((h4 z hz).alloc o).grown (h3.alloc o) (by decide) (by decide) hg).setBox (by omega), h5, h6⟩, Zhf h hown hg 4, h.lo⟩
 rw [List.take_add_one, hy, List.map_append]
 have := RowKit.ownsRow_setCell_below ho9 (a := ⟨xb, 4, none⟩) (by simp) v9
 simpa using this
end
structure PVIn (base : Nat) (w wr : World) (p : QP) (r : PR) (sh : List (Value × List TV)) : Prop where
 name : r.name = p.name
 uses : r.uses = p.uses
 sv : r.sv = p.sv
 hv : wr.ownsRow base 101 1 r.hv p.sh.length (sh.map Prod.fst)
 gv : wr.ownsRow base 4 1 r.gv p.sh.length (p.sh.map (fun y => Value.bool y.gv))
 rows : ∀ s ∈ sh, TIn17 base w wr s.1 s.2
 same : sh.map (fun s => s.2.map Prod.fst) = p.sh.map (fun y => y.l.map Prod.fst)
 lists : sh.map (fun s => s.2.map (fun z => z.2.2)) = p.sh.map (fun y => y.l.map (fun d => d.2.2.2))
section
variable {base b k : Nat} {w wr w9 : World} {p : QP} {r : PR} {sh : List (Value × List TV)} {ov : Value} {xs : List Value}
theorem PVIn.below (h : PVIn base w wr p r sh) (hb : Below wr.heap.size wr w9) : PVIn base w w9 p r sh := ⟨h.name, h.uses, h.sv, Zk h.hv hb, Zk h.gv hb, fun s hs => (h.rows s hs).below hb, h.same, h.lists⟩
theorem PVIn.rebase (h : PVIn base w wr p r sh) (hb : b ≤ base) : PVIn b w wr p r sh := ⟨h.name, h.uses, h.sv, Zap h.hv hb, Zap h.gv hb, fun s hs => (h.rows s hs).base hb, h.same, h.lists⟩
theorem PVIn.grown (h : PVIn base w wr p r sh) (ho : wr.ownsRow b 95 5 ov k xs) (hg : wr.grownBy w9 ov.ownBlock) : PVIn base w w9 p r sh :=
 ⟨h.name, h.uses, h.sv, ZT h.hv hg (ZG h.hv ho (by decide)), ZT h.gv hg (ZG h.gv ho (by decide)), fun s hs => (h.rows s hs).grown ho (by decide) (by decide) hg, h.same, h.lists⟩
theorem PVIn.at {q : Int} (h : PVIn base w wr p r sh) (hb : Below w.heap.size w wr) (hp : QPAt q w p) : PVAt wr r p.abs sh := by
 have hl : p.abs.sh.length = p.sh.length := List.length_map _
 refine ⟨h.name, h.uses, ?_, ?_, ?_, fun s hs => (h.rows s hs).rows hb, ?_⟩
 ·rw [h.sv]
  exact hp.sv.below hb
 ·rw [hl]
  exact Zbj h.hv
 ·rw [hl, show p.abs.sh.map (fun s => Value.bool s.1) = p.sh.map (fun y => Value.bool y.gv) by unfold QP.abs; rw [List.map_map]; rfl]
  exact Zbj h.gv
 ·rw [h.same]
  unfold QP.abs
  rw [List.map_map]
  rfl
theorem PBx.row {w0 : World} {xb : Nat} (h : PBx w w0 xb p p.sh.length p.sh.length wr) : ∃ r sh, wr.heap[xb]? = some (.cells (encPR r).toArray 95 (0, 0)) ∧ PVIn (xb + 1) w wr p r sh := by
 obtain ⟨⟨hv, gv, sh, h1, h2, h3, h4, h5, h6⟩, -, -⟩ := h
 rw [List.take_length] at h3 h5 h6
 exact ⟨_, sh, h1, rfl, rfl, rfl, h2, h3, h4, h5, h6⟩
end
structure BIn (w wr : World) (ov : Value) (l : List QP) (D : List LR) : Prop where
 own : wr.ownsRow w.heap.size 95 5 ov D.length (D.flatMap encLR)
 row : ∀ (i : Nat) t p, D[i]? = some t → l[i]? = some p → PVIn w.heap.size w wr p t.r t.sh ∧ t.A = p.abs
theorem BIn.below {w wr w' : World} {ov : Value} {l : List QP} {D : List LR} (h : BIn w wr ov l D) (hb : Below wr.heap.size wr w') : BIn w w' ov l D := ⟨Zk h.own hb, fun i t p h1 h2 => ⟨(h.row i t p h1 h2).1.below hb, (h.row i t p h1 h2).2⟩⟩
theorem BIn.snoc {w wr w9 : World} {ov v9 : Value} {l : List QP} {D : List LR} {p : QP} {t : LR} (h : BIn w wr ov l D) (hp : l[D.length]? = some p) (hr : PVIn w.heap.size w wr p t.r t.sh) (hA : t.A = p.abs) (ho : w9.ownsRow w.heap.size 95 5 v9 (D.length + 1) (D.flatMap encLR ++ encLR t)) (hg : wr.grownBy w9 ov.ownBlock) : BIn w w9 v9 l (D ++ [t]) := by
 refine ⟨by rw [List.length_append, List.flatMap_append]; simpa using ho, fun i t' p' h1 h2 => ?_⟩
 rcases Nat.lt_or_ge i D.length with hi | hi
 ·rw [List.getElem?_append_left hi] at h1
  exact ⟨(h.row i t' p' h1 h2).1.grown h.own hg, (h.row i t' p' h1 h2).2⟩
 ·have hi0 : i = D.length := by
   have := (List.getElem?_eq_some_iff.1 h1).1
   simp at this
   omega
  subst hi0
  rw [List.getElem?_append_right (Nat.le_refl _)] at h1
  simp at h1
  subst h1
  obtain rfl : p = p' := Option.some.inj (hp.symm.trans h2)
  exact ⟨hr.grown h.own hg, hA⟩
def Zmp (l : List QP) : Prop := ∀ p ∈ l, p.sh.length ≤ 1000 ∧ ∀ y ∈ p.sh, y.l.length ≤ 1000000 ∧ ∀ d ∈ y.l, d.2.2.2.length ≤ 1000000
set_option maxRecDepth 100000 in
set_option maxHeartbeats 16000000 in
theorem Zlc (q : Int) (v : Value) (l : List QP) (w : World) (h : SlAt w v l.length (l.flatMap encQP)) (hi : ∀ p ∈ l, QPAt q w p) (hf : l.length ≤ 1000) (hsz : Zmp l) :
 Calls Tryz.prog 23 #[v] w fun e w' => ∃ v' T, e = .returned v' ∧ BIn w w' v' l T ∧ T.length = l.length ∧ Below w.heap.size w w' := by
 have HL := Lib.hid h
 have HI := Lib.hid hi
 have HF := Lib.hid hf
 have HSZ := Lib.hid hsz
 obtain ⟨la, lc, rfl, -⟩ := h.form
 clear h hi hf hsz
 go_enter Tryz.func23, Tryz.ntmps23
 go_wp2_with fail
 go_loopg [3, 4] l.length (fun g ov i wr => ∃ (k : Nat) (D : List LR), g = l.length - k ∧ i = .int .i64 k ∧ k ≤ l.length ∧ D.length = k ∧ BIn w wr ov l D ∧ Below w.heap.size w wr)
 case atStart => exact ⟨0, [], rfl, rfl, Nat.zero_le _, rfl, ⟨Zal (Nat.le_refl _), fun i t p h => by simp at h⟩, box_below⟩
 case round =>
  obtain ⟨k, D, hg, rfl, hk, hD, hI, hb⟩ := hrel
  have HG := Lib.hid hg
  have HD := Lib.hid hD
  have HIN := Lib.hid hI
  have HB := Lib.hid hb
  clear hg hD hI hb
  by_cases hlt : k < l.length
  ·obtain ⟨p, hp⟩ : ∃ p, l[k]? = some p := ⟨_, List.getElem?_eq_getElem hlt⟩
   have HP := Lib.hid hp
   have HPQ := Lib.hid (HI.out p (List.mem_of_getElem? hp))
   have HPS := Lib.hid (HSZ.out p (List.mem_of_getElem? hp))
   obtain ⟨g, off, hla, hc1⟩ := HL.out.cells ZaW (by decide) hp
   subst hla
   obtain ⟨ha, hc, hhv, -⟩ := HPQ.out.hv.form
   have HHV := Lib.hid hhv
   have HC := Lib.hid (show ∀ w', Below w.heap.size w w' → ∀ j u, (encQP p)[j]? = some u → w'.cell? ⟨g, off + k * 4 + j, none⟩ = some u from fun w' hb j u hu => Zc hb (hc1 j u hu))
   have hkl : (k : Int) < (l.length : Int) := by omega
   have c0 : wr.cell? ⟨g, off + k * 4, none⟩ = some (.string p.name) := HC.out wr HB.out 0 _ rfl
   have c1 : wr.cell? ⟨g, off + k * 4 + 1, none⟩ = some (.int .i64 p.uses) := HC.out wr HB.out 1 _ rfl
   have c2 : wr.cell? ⟨g, off + k * 4 + 2, none⟩ = some p.sv := HC.out wr HB.out 2 _ rfl
   have gw : g < wr.heap.size := World.block_lt_of_cell? wr _ c0
   obtain ⟨sa, sc, hsv, -⟩ := HPQ.out.sv.form
   have HSV := Lib.hid hsv
   rw [hsv] at c2
   clear hp hc1 hhv hsv
   go_upto_region 5 with fail
   go_cut [5] (fun bv wx => ∃ xb : Nat, bv = .pointer (some ⟨xb, 0, none⟩) ∧ PBx w wr xb p 0 0 wx)
   case first =>
    go_region
    all_goals
     clear c0 c1 c2 gw
     go_wp2_with fail
     go_meet
     refine ⟨wr.heap.size, rfl, ⟨⟨.slice none 0 0, .slice none 0 0, [], ?_, Za4 _ _ _ _, Za4 _ _ _ _, (fun s hs => by cases hs), rfl, rfl⟩, ZO box_below 1, Nat.le_refl _⟩⟩
     unfold encPR
     rw [HSV.out]
     exact Zf
   case rest =>
    obtain ⟨xb, rfl, hst⟩ := hcut
    obtain ⟨w5, rfl⟩ : ∃ w5 : World, w5 = wr := ⟨_, rfl⟩
    have HST := Lib.hid hst
    clear hst c0 c1 c2 gw
    have hpl := HPS.out.1
    go_wp2_with fail
    go_loopg [6] p.sh.length (fun g i w' => ∃ j : Nat, g = p.sh.length - j ∧ i = .int .i64 j ∧ j ≤ p.sh.length ∧ PBx w w5 xb p j j w')
    case atStart => exact ⟨0, rfl, rfl, Nat.zero_le _, HST.out⟩
    case round =>
     obtain ⟨j, hg, rfl, hj, hst⟩ := hrel
     have HG2 := Lib.hid hg
     have HST2 := Lib.hid hst
     have HBW := Lib.hid (HB.out.trans (hst.below.mono HB.out.size))
     have c3 : wr.cell? ⟨g, off + k * 4 + 3, none⟩ = some (.slice ha p.sh.length hc) := by rw [← HHV.out]; exact HC.out wr HBW.out 3 _ rfl
     clear hg hst
     by_cases hjl : j < p.sh.length
     ·obtain ⟨y, hy⟩ : ∃ y, p.sh[j]? = some y := ⟨_, List.getElem?_eq_getElem hjl⟩
      have HY := Lib.hid hy
      have HYS := Lib.hid (HPS.out.2 y (List.mem_of_getElem? hy))
      have HDR := Lib.hid (HPQ.out.inv y (List.mem_of_getElem? hy))
      obtain ⟨ya, yc, hyv, -⟩ := HDR.out.form
      obtain ⟨g7, o7, hq7, hc7⟩ := (show SlAt w (.slice ha p.sh.length hc) p.sh.length (p.sh.flatMap (encQS q)) by have h := HPQ.out.hv; rw [HHV.out] at h; exact h).cells (ZbH q) (by decide) hy
      subst hq7
      have HC7 := Lib.hid (show ∀ w', Below w.heap.size w w' → w'.cell? ⟨g, off + k * 4 + 3, none⟩ = some (.slice (some ⟨g7, o7, none⟩) p.sh.length hc) ∧ w'.cell? ⟨g7, o7 + j * 3 + 1, none⟩ = some (.slice ya y.l.length yc) ∧ w'.cell? ⟨g7, o7 + j * 3 + 2, none⟩ = some (.bool y.gv) from fun w' hb => ⟨by rw [← HHV.out]; exact HC.out w' hb 3 _ rfl, Zc hb (by rw [← hyv]; exact hc7 1 _ rfl), Zc hb (hc7 2 _ rfl)⟩)
      have HYV := Lib.hid hyv
      have hjl2 : (j : Int) < (p.sh.length : Int) := by omega
      clear hy hc7 hyv
      go_upto_region 9 with fail
      clear c3
      go_cut [] (fun wx => PBx w w5 xb p (j + 1) j wx)
      case first =>
       obtain ⟨hv, gv, sh, hx, hoh, hog, hin, he1, he2⟩ := HST2.out.cells
       have HX := Lib.hid hx
       have HOH := Lib.hid hoh
       have HOG := Lib.hid hog
       have HIS := Lib.hid hin
       have HE := Lib.hid (And.intro he1 he2)
       have q3 : wr.cell? ⟨xb, 3, none⟩ = some hv := Za hx rfl
       obtain ⟨c3, s1, s2⟩ := HC7.out wr HBW.out
       have hbd : Below wr.heap.size wr wr.drew := ⟨rfl, rfl, rfl, Nat.le_refl _, fun _ _ => rfl⟩
       have HLX := Lib.hid (Zb hx)
       obtain ⟨i1, hi0, hz0, hz1, hz2⟩ := info_parts Zis
       have HTEN := Lib.hid (show Calls Tryz.prog 53 #[.slice ya y.l.length yc] wr.drew (fun e w' => ∃ a' c' l', e = .returned (.slice a' y.l.length c') ∧ TIn17 (xb + 1) w w' (.slice a' y.l.length c') l' ∧ l'.map Prod.fst = y.l.map Prod.fst ∧ l'.map (fun p => p.2.2) = y.l.map (fun p => p.2.2.2) ∧ Below wr.heap.size wr w') from by
        have h := ZhC y.v y.l wr.drew ((HDR.out.below HBW.out).below hbd) HYS.out.1 HYS.out.2
        rw [HYV.out] at h
        refine h.mono ?_
        rintro e w' ⟨v', l', rfl, h1, h2, h3, h4⟩
        obtain ⟨a', c', hv', -⟩ := (Zbj h1.own).form
        have hll : l'.length = y.l.length := by have h := congrArg List.length h2; simpa using h
        rw [hll] at hv'
        subst hv'
        refine ⟨a', c', l', rfl, (h1.base (show xb + 1 ≤ wr.drew.heap.size from HLX.out)).from (fun z hz r hr => ?_), h2, h3, Zr hbd h4⟩
        have hm : z.2.2 ∈ l'.map (fun p => p.2.2) := List.mem_map_of_mem hz
        rw [h3] at hm
        obtain ⟨d, hd, hde⟩ := List.mem_map.1 hm
        rw [← hde] at hr
        exact (HDR.out.inv d hd).rows.its r hr)
       have hpl2 := HPS.out.1
       clear hx hoh hog hin he1 he2
       go_region_law (first
        | (go_simp; go_at_call 53; refine HTEN.out.mono ?_; rintro e w6 ⟨a6, c6, l6, rfl, ht6, e16, e26, hb6⟩; (have H6 := Lib.hid (HST2.out.on hb6)); (have hx6 := (hb6.block xb HLX.out).trans HX.out); (have HX6 := Lib.hid hx6); (have q6 : w6.cell? ⟨xb, 3, none⟩ = some hv := Za hx6 rfl); (have lx6 := Zb hx6); (have HB6 := Lib.hid hb6); (have HT6 := Lib.hid ht6); (have HE6 := Lib.hid (And.intro e16 e26)); clear hb6 hx6 ht6 e16 e26)
        | (refine step_append_lies _ (by rfl) _ _ _ (by rfl) (xb + 1) 101 i1 _ 1 24 Tryz.underlying92 hi0 hz0 hz1 hz2 rfl (by decide) hv j (sh.map Prod.fst) (by rfl) ((Zk HOH.out HB6.out).alloc _) ⟨w6.heap.size, 0, none⟩ 1 1 [.slice a6 y.l.length c6] (by rfl) (by rfl) (World.news_of_block (cs := #[.slice a6 y.l.length c6]) (t := 101) (fr := (0, 0)) (heap_alloc_new _ _)) (by simp [Value.oneCell']) (by omega) (by unfold maxLen; omega) (by omega) (by simp; omega) (w6.heap.size + 1) (by simp) ?_; intro gg gcap w9 hown9 hgrow hat hlt9; (have hx9 : w9.heap[xb]? = some (.cells (encPR ⟨p.name, p.uses, p.sv, hv, gv⟩).toArray 95 (0, 0)) := (hgrow.block xb (by simp; omega) (fun e => by have := Zl HOH.out xb e.symm; omega)).trans (Zi HX6.out)); (have k2 : w9.cell? ⟨xb, 3, none⟩ = some hv := Za hx9 rfl); (have f2 : w9.frozen? ⟨xb, 3, none⟩ = false := Zd hx9)))
       all_goals
        go_wp2_with fail
        go_meet
        exact H6.out.shares (s := (_, l6)) HY.out HT6.out HE6.out.1 HE6.out.2 HX6.out (Zk HOH.out HB6.out) (Zk HOG.out HB6.out) (fun s hs => (HIS.out s hs).below HB6.out) HE.out.1 HE.out.2 hown9 ⟨hgrow.os, hgrow.tape, hgrow.output, hgrow.size, hgrow.block⟩
      case rest =>
       have HST3 := Lib.hid hcut
       clear hcut
       obtain ⟨hv, gv, sh, hx, hoh, hog, hin, he1, he2⟩ := HST3.out.cells
       have HX := Lib.hid hx
       have HOH := Lib.hid hoh
       have HOG := Lib.hid hog
       have HIS := Lib.hid hin
       have HE := Lib.hid (And.intro he1 he2)
       have q4 : wc.cell? ⟨xb, 4, none⟩ = some gv := Za hx rfl
       obtain ⟨c3, s1, s2⟩ := HC7.out wc (HB.out.trans (HST3.out.below.mono HB.out.size))
       have lx := Zb hx
       obtain ⟨i1, hi0, hz0, hz1, hz2⟩ := info_parts Zfz
       have hpl2 := HPS.out.1
       clear hx hoh hog hin he1 he2 s1
       go_upto_region 10 with fail
       go_region_law (refine step_append_lies _ (by rfl) _ _ _ (by rfl) (xb + 1) 4 i1 _ 1 1 Tryz.underlying93 hi0 hz0 hz1 hz2 rfl (by decide) gv j ((p.sh.take j).map (fun (y : QS) => Value.bool y.gv)) (by rfl) ((Zk HOG.out ⟨rfl, rfl, rfl, Nat.le_refl _, fun _ _ => rfl⟩).alloc _) ⟨wc.heap.size, 0, none⟩ 1 1 [.bool y.gv] (by rfl) (by rfl) (World.news_of_block (cs := #[.bool y.gv]) (t := 4) (fr := (0, 0)) (heap_alloc_new _ _)) (by simp [Value.oneCell']) (by omega) (by unfold maxLen; omega) (by omega) (by simp; omega) (wc.heap.size + 1) (by simp) ?_; intro gg gcap w9 hown9 hgrow hat hlt9; (have hx9 : w9.heap[xb]? = some (.cells (encPR ⟨p.name, p.uses, p.sv, hv, gv⟩).toArray 95 (0, 0)) := (hgrow.block xb (by simp; omega) (fun e => by have := Zl HOG.out xb e.symm; omega)).trans (Zi HX.out)); (have k2 : w9.cell? ⟨xb, 4, none⟩ = some gv := Za hx9 rfl); (have f2 : w9.frozen? ⟨xb, 4, none⟩ = false := Zd hx9))
       all_goals
        go_wp2_with fail
        go_roundg (p.sh.length - (j + 1))
        case rel => exact ⟨j + 1, rfl, by go_num, by omega, HST3.out.given HY.out HX.out HOH.out HOG.out HIS.out HE.out.1 HE.out.2 hown9 ⟨hgrow.os, hgrow.tape, hgrow.output, hgrow.size, hgrow.block⟩⟩
        case measure => have := HG2.out; omega
     ·obtain rfl : j = p.sh.length := by omega
      obtain ⟨⟨rn, ru, rsv, rhv, rgv⟩, sh, hr, hri⟩ := HST2.out.row
      have hlo := HST2.out.lo
      have hbw := HB.out.size
      have HI9 := Lib.hid (HIN.out.below HST2.out.below)
      have hrsv : rsv = .slice sa p.served.length sc := by have h := hri.sv; simp only at h; rw [h, HSV.out]
      obtain ⟨ha', hc', hhv, -⟩ := (Zbj hri.hv).form
      obtain ⟨ga, gc, hgv, -⟩ := (Zbj hri.gv).form
      simp only at hhv hgv
      subst hrsv hhv hgv
      have HRI := Lib.hid (hri.rebase (b := w.heap.size) (by omega))
      have k0 : wr.cell? ⟨xb, 0, none⟩ = some (.string rn) := Za hr rfl
      have k1 : wr.cell? ⟨xb, 1, none⟩ = some (.int .i64 ru) := Za hr rfl
      have k2 : wr.cell? ⟨xb, 2, none⟩ = some (.slice sa p.served.length sc) := Za hr rfl
      have k3 : wr.cell? ⟨xb, 3, none⟩ = some (.slice ha' p.sh.length hc') := Za hr rfl
      have k4 : wr.cell? ⟨xb, 4, none⟩ = some (.slice ga p.sh.length gc) := Za hr rfl
      have hc1 := HBW.out.size
      have hfw := HF.out
      have hdl := HD.out
      have hc2 : D.length < 140737488355328 := by omega
      have hc3 : (D.length + 1) * 96 ≤ 140737488355328 := by omega
      clear hr hri hlo hbw hdl
      go_wp2_with (at_builtin; refine Zv (us := #[.string rn, .int .i64 ru, .slice sa p.served.length sc, .slice ha' p.sh.length hc', .slice ga p.sh.length gc]) rfl _ _ 59 rfl w.heap.size _ 5 96 Tryz.underlying59 Zj7 rfl (by decide) u3 D.length (D.flatMap encLR) rfl HI9.out.own rfl rfl (by simp [Value.oneCell']) ?c1 ?c2 ?c3 ?_; (case c1 => exact hc1); (case c2 => exact hc2); (case c3 => exact hc3); intro gg gcap w10 ho10 hg10 hat10)
      have HI10 := Lib.hid (HI9.out.snoc (t := ⟨⟨rn, ru, .slice sa p.served.length sc, .slice ha' p.sh.length hc', .slice ga p.sh.length gc⟩, p.abs, sh⟩) (by rw [HD.out]; exact HP.out) HRI.out rfl ho10 hg10)
      have HB10 := Lib.hid (HBW.out.trans ⟨hg10.os, hg10.tape, hg10.output, hg10.size, fun j hj => hg10.block j (by omega) (fun e => by have := Zl HI9.out.own j e.symm; omega)⟩ : Below w.heap.size w w10)
      clear ho10 hg10 hat10 k0 k1 k2 k3 k4 hc1 hc2 hc3 c3
      go_wp2_with fail
      go_roundg (l.length - (k + 1))
      case rel => exact ⟨k + 1, _, rfl, by go_num, by omega, by rw [List.length_append, List.length_singleton, HD.out], HI10.out, HB10.out⟩
      case measure => have := HG.out; omega
  ·have HK := Lib.hid (show k = l.length by omega)
   go_wp2_with fail
   go_ret
   exact ⟨_, D, rfl, HIN.out, by rw [HD.out, HK.out], HB.out⟩
structure QX where
 name : ByteArray
 uses : Int
 served : List Int
 sh : List (Int × QS)
 sv : Value
 hv : Value
def encQX (p : QX) : List Value := [.string p.name, .int .i64 p.uses, p.sv, p.hv]
theorem Zhg (p : QX) : (encQX p).length = 4 := rfl
def encXS (s : Int × QS) : List Value := encQS s.1 s.2
theorem Zhh (s : Int × QS) : (encXS s).length = 3 := rfl
structure QXAt (w : World) (p : QX) : Prop where
 sv : SlAt w p.sv p.served.length (p.served.flatMap encZ)
 hv : SlAt w p.hv p.sh.length (p.sh.flatMap encXS)
 inv : ∀ s ∈ p.sh, DRowsAt w s.2.v s.2.l
theorem QXAt.below {w w' : World} {p : QX} (h : QXAt w p) (hb : Below w.heap.size w w') : QXAt w' p := ⟨h.sv.below hb, h.hv.below hb, fun s hs => (h.inv s hs).below hb⟩
def Za3 (q : Int) (p : QX) : Prop := ∀ s ∈ p.sh, s.1 = q ∧ (∀ d ∈ s.2.l, d.2.1 = q ∧ s.2.l.length ≤ 10 ∧ d.2.2.2.length ≤ 10)
def ZiD (q : Int) (p : QX) (w : World) (e : Ending) (w' : World) : Prop := (∃ r, e = .returned (.bool r) ∧ (r = true ↔ Za3 q p)) ∧ Below w.heap.size w w'
theorem Zda {q : Int} {p : QX} {w w' : World} (hn : ¬ Za3 q p) (hb : Below w.heap.size w w') : ZiD q p w (.returned (.bool false)) w' := ⟨⟨false, rfl, fun h => absurd h (by decide), fun h => absurd h hn⟩, hb⟩
theorem ZnA {q : Int} {p : QX} {w w' : World} (hn : Za3 q p) (hb : Below w.heap.size w w') : ZiD q p w (.returned (.bool true)) w' := ⟨⟨true, rfl, fun _ => hn, fun _ => rfl⟩, hb⟩
def QX.toQ (p : QX) : QP := ⟨p.name, p.uses, p.served, p.sh.map Prod.snd, p.sv, p.hv⟩
theorem Zmq {q : Int} : ∀ {l : List (Int × QS)}, (∀ s ∈ l, s.1 = q) → l.flatMap encXS = (l.map Prod.snd).flatMap (encQS q)
 | [], _ => rfl
 | a :: l, h => by
   rw [List.flatMap_cons, List.map_cons, List.flatMap_cons, Zmq (fun s hs => h s (by simp [hs]))]
   unfold encXS
   rw [h a (by simp)]
theorem QXAt.toQ {q : Int} {w : World} {p : QX} (h : QXAt w p) (hq : ∀ s ∈ p.sh, s.1 = q) : QPAt q w p.toQ := by
 refine ⟨h.sv, ?_, fun s hs => ?_⟩
 ·show SlAt w p.hv (p.sh.map Prod.snd).length ((p.sh.map Prod.snd).flatMap (encQS q))
  rw [List.length_map, ← Zmq hq]
  exact h.hv
 ·obtain ⟨y, hy, rfl⟩ := List.mem_map.1 hs
  exact h.inv y hy
theorem Zok (l : List QX) : l.flatMap encQX = (l.map QX.toQ).flatMap encQP := by
 rw [List.flatMap_map]
 rfl
def ZeV (p : QX) : Array Value := #[.string p.name, .int .i64 p.uses, p.sv, p.hv]
theorem xs_sz (s : Int × QS) : (Tryz.prog.info? 100).map (·.size) = some (encXS s).length := qs_sz s.1 s.2
set_option maxRecDepth 100000 in
set_option maxHeartbeats 8000000 in
theorem ZiE (q : Int) (p : QX) (w : World) (h : QXAt w p) (hl : p.sh.length ≤ 1000) (hls : ∀ s ∈ p.sh, s.2.l.length ≤ 1000000000) : Calls Tryz.prog 21 #[.agg (ZeV p), .int .i64 q] w (ZiD q p w) := by
 have H := Lib.hid (h.below (box_below (o := .cells (ZeV p) 55)))
 have HL := Lib.hid (And.intro hl hls)
 obtain ⟨sa, sc, hsv, -⟩ := h.sv.form
 obtain ⟨ha, hc, hhv, -⟩ := h.hv.form
 have HHV := Lib.hid hhv
 unfold ZeV at H ⊢
 rw [hsv, hhv] at H ⊢
 clear h hl hls hsv hhv
 go_enter Tryz.func21, Tryz.ntmps21
 go_upto_region 1 with fail
 obtain ⟨w1, hw1⟩ : ∃ w1 : World, w1 = w.alloc (.cells #[.string p.name, .int .i64 p.uses, .slice sa p.served.length sc, .slice ha p.sh.length hc] 55) := ⟨_, rfl⟩
 obtain ⟨xb, hxb⟩ : ∃ xb : Nat, xb = w.heap.size := ⟨_, rfl⟩
 rw [← hw1] at H
 rw [← hw1, ← hxb]
 have HX := Lib.hid (show w1.heap[xb]? = some (.cells #[.string p.name, .int .i64 p.uses, .slice sa p.served.length sc, .slice ha p.sh.length hc] 55 (0, 0)) by rw [hw1, hxb]; exact Zf)
 have HB1 := Lib.hid (show Below w.heap.size w w1 by rw [hw1]; exact box_below)
 have hpl := HL.out.1
 clear hw1 hxb
 go_wp2_with fail
 go_loopg [5] p.sh.length (fun g i wr => ∃ k : Nat, g = p.sh.length - k ∧ i = .int .i64 k ∧ k ≤ p.sh.length ∧ (∀ (t : Nat) s, t < k → p.sh[t]? = some s → s.1 = q ∧ (∀ d ∈ s.2.l, d.2.1 = q ∧ s.2.l.length ≤ 10 ∧ d.2.2.2.length ≤ 10)) ∧ Below w1.heap.size w1 wr)
 case atStart => exact ⟨0, rfl, rfl, Nat.zero_le _, fun t s ht => by omega, Below.refl _ _⟩
 case round =>
  obtain ⟨k, hg, rfl, hk, hok, hb⟩ := hrel
  have HG := Lib.hid hg
  have HOK := Lib.hid hok
  have HB := Lib.hid hb
  have x3 : wr.cell? ⟨xb, 3, none⟩ = some (.slice ha p.sh.length hc) := Za ((hb.block _ (Zb HX.out)).trans HX.out) rfl
  clear hg hok hb
  by_cases hlt : k < p.sh.length
  ·obtain ⟨s, hs⟩ : ∃ s, p.sh[k]? = some s := ⟨_, List.getElem?_eq_getElem hlt⟩
   have HS := Lib.hid hs
   have HSL := Lib.hid (HL.out.2 s (List.mem_of_getElem? hs))
   have HDR := Lib.hid (H.out.inv s (List.mem_of_getElem? hs))
   obtain ⟨ya, yc, hyv, -⟩ := HDR.out.form
   obtain ⟨g7, o7, hq7, hc7⟩ := (show SlAt wr (.slice ha p.sh.length hc) p.sh.length (p.sh.flatMap encXS) by have h := (H.out.below HB.out).hv; rw [HHV.out] at h; exact h).cells Zhh (by decide) hs
   subst hq7
   have HRG := Lib.hid (show wr.rangeAt g7 (o7 + k * 3) [.int .i64 s.1, .slice ya s.2.l.length yc, .bool s.2.gv] from fun j u hu => hc7 j u (by unfold encXS encQS; rw [hyv]; exact hu))
   have HYV := Lib.hid hyv
   have hkl : (k : Int) < (p.sh.length : Int) := by omega
   clear hs hc7 hyv
   go_upto_region 5 with (refine wpList_load_mid rfl 100 _ rfl g7 (o7 + k * 3) rfl [.int .i64 s.1, .slice ya s.2.l.length yc, .bool s.2.gv] _ HRG.out Tryz.underlying100 rfl (xs_sz s) ?_)
   obtain ⟨w3, hw3⟩ : ∃ w3 : World, w3 = wr.alloc (.cells #[.int .i64 s.1, .slice ya s.2.l.length yc, .bool s.2.gv] 100) := ⟨_, rfl⟩
   obtain ⟨yb, hyb⟩ : ∃ yb : Nat, yb = wr.heap.size := ⟨_, rfl⟩
   rw [← hw3, ← hyb]
   have HY3 := Lib.hid (show w3.heap[yb]? = some (.cells #[.int .i64 s.1, .slice ya s.2.l.length yc, .bool s.2.gv] 100 (0, 0)) by rw [hw3, hyb]; exact Zf)
   have HB3 := Lib.hid (show Below w1.heap.size w1 w3 by rw [hw3]; exact HB.out.alloc HB.out.size _)
   have hsl := HSL.out
   clear hw3 hyb x3
   go_wp2_with fail
   go_loopg [7] s.2.l.length (fun g i w' => ∃ j : Nat, g = s.2.l.length - j ∧ i = .int .i64 j ∧ j ≤ s.2.l.length ∧ (∀ (t : Nat) d, t < j → s.2.l[t]? = some d → d.2.1 = q ∧ s.2.l.length ≤ 10 ∧ d.2.2.2.length ≤ 10) ∧ Below w3.heap.size w3 w')
   case atStart => exact ⟨0, rfl, rfl, Nat.zero_le _, fun t d ht => by omega, Below.refl _ _⟩
   case round =>
    obtain ⟨j, hg, rfl, hj, hok, hb⟩ := hrel
    have HG2 := Lib.hid hg
    have HOK2 := Lib.hid hok
    have HBJ := Lib.hid (HB3.out.trans (hb.mono HB3.out.size))
    have HB4 := Lib.hid hb
    have hy4 : wr.heap[yb]? = some (.cells #[.int .i64 s.1, .slice ya s.2.l.length yc, .bool s.2.gv] 100 (0, 0)) := (hb.block _ (Zb HY3.out)).trans HY3.out
    have y0 : wr.cell? ⟨yb, 0, none⟩ = some (.int .i64 s.1) := Za hy4 rfl
    have y1 : wr.cell? ⟨yb, 1, none⟩ = some (.slice ya s.2.l.length yc) := Za hy4 rfl
    clear hg hok hb hy4
    by_cases hjl : j < s.2.l.length
    ·obtain ⟨d, hd⟩ : ∃ d, s.2.l[j]? = some d := ⟨_, List.getElem?_eq_getElem hjl⟩
     have HD := Lib.hid hd
     obtain ⟨da, dc, hdv, -⟩ := (HDR.out.inv d (List.mem_of_getElem? hd)).rows.form
     have hdr := HDR.out.below HBJ.out
     rw [HYV.out] at hdr
     obtain ⟨gd, od, cd, hv, _, e0, e1, e2, e3, e4, e5⟩ := hdr.at hd
     cases hv
     rw [hdv] at e4
     have hjl2 : (j : Int) < (s.2.l.length : Int) := by omega
     have hcs : ((d.2.1 : Int) != q) = true ∨ (((d.2.1 : Int) != q) = false ∧ 10 < (s.2.l.length : Int)) ∨ (((d.2.1 : Int) != q) = false ∧ ¬ 10 < (s.2.l.length : Int) ∧ 10 < (d.2.2.2.length : Int)) ∨ (((d.2.1 : Int) != q) = false ∧ ¬ 10 < (s.2.l.length : Int) ∧ ¬ 10 < (d.2.2.2.length : Int)) := by
      simp only [bne_iff_ne, ne_eq, bne_eq_false_iff_eq]
      omega
     clear hd hdv hdr e0 e1 e2 e5
     rcases hcs with c1 | ⟨c1, c2⟩ | ⟨c1, c2, c3⟩ | ⟨c1, c2, c3⟩
     ·have HNO := Lib.hid (show ¬ Za3 q p from fun h => by have h1 := (h s (List.mem_of_getElem? HS.out)).2 d (List.mem_of_getElem? HD.out); rw [h1.1] at c1; simp at c1)
      go_wp2_with fail
      go_ret
      exact Zda HNO.out (HB1.out.trans (HBJ.out.mono HB1.out.size))
     ·have HNO := Lib.hid (show ¬ Za3 q p from fun h => by have h1 := (h s (List.mem_of_getElem? HS.out)).2 d (List.mem_of_getElem? HD.out); omega)
      go_wp2_with fail
      go_ret
      exact Zda HNO.out (HB1.out.trans (HBJ.out.mono HB1.out.size))
     ·have HNO := Lib.hid (show ¬ Za3 q p from fun h => by have h1 := (h s (List.mem_of_getElem? HS.out)).2 d (List.mem_of_getElem? HD.out); omega)
      go_wp2_with fail
      go_ret
      exact Zda HNO.out (HB1.out.trans (HBJ.out.mono HB1.out.size))
     ·have HDO := Lib.hid (show d.2.1 = q ∧ s.2.l.length ≤ 10 ∧ d.2.2.2.length ≤ 10 from ⟨by simpa using c1, by omega, by omega⟩)
      go_wp2_with fail
      go_roundg (s.2.l.length - (j + 1))
      case rel =>
       refine ⟨j + 1, rfl, by go_num, by omega, fun t z ht hz => ?_, HB4.out⟩
       rcases Nat.lt_or_ge t j with h | h
       ·exact HOK2.out t z h hz
       ·obtain rfl : t = j := by omega
        obtain rfl := Option.some.inj (HD.out.symm.trans hz)
        exact HDO.out
      case measure => have := HG2.out; omega
    ·rcases hq : ((s.1 : Int) != q) with _ | _
     ·have HSO := Lib.hid (show s.1 = q ∧ (∀ d ∈ s.2.l, d.2.1 = q ∧ s.2.l.length ≤ 10 ∧ d.2.2.2.length ≤ 10) from ⟨by simpa using hq, fun d hd => by
       obtain ⟨t, ht⟩ := List.getElem?_of_mem hd
       exact HOK2.out t d (by have := (List.getElem?_eq_some_iff.1 ht).1; omega) ht⟩)
      go_wp2_with fail
      go_roundg (p.sh.length - (k + 1))
      case rel =>
       refine ⟨k + 1, rfl, by go_num, by omega, fun t z ht hz => ?_, HBJ.out⟩
       rcases Nat.lt_or_ge t k with h | h
       ·exact HOK.out t z h hz
       ·obtain rfl : t = k := by omega
        obtain rfl := Option.some.inj (HS.out.symm.trans hz)
        exact HSO.out
      case measure => have := HG.out; omega
     ·have HNO := Lib.hid (show ¬ Za3 q p from fun h => by have h1 := (h s (List.mem_of_getElem? HS.out)).1; rw [h1] at hq; simp at hq)
      go_wp2_with fail
      go_ret
      exact Zda HNO.out (HB1.out.trans (HBJ.out.mono HB1.out.size))
  ·have HK := Lib.hid (show Za3 q p from fun s hs => by
    obtain ⟨t, ht⟩ := List.getElem?_of_mem hs
    exact HOK.out t s (by have := (List.getElem?_eq_some_iff.1 ht).1; omega) ht)
   go_wp2_with fail
   go_ret
   exact ZnA HK.out (HB1.out.trans (HB.out.mono HB1.out.size))
end Go.Proofs.YtdbjihkgafhakaaGreatDoor
