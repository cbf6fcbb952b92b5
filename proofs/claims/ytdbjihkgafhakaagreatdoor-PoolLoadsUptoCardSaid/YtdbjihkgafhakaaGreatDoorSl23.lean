/-
 share.Load: the walk.
 ref15 (flows): Right: the walk.
 ref16 (shares): Right: the walk.
-/
import Derived.Test.YtdbjihkgafhakaaGreatDoorSl22
import Derived.Test.YtdbjihkgafhakaaGreatDoorSl21
import Derived.Test.YtdbjihkgafhakaaGreatDoorSl17
namespace Go.Proofs.YtdbjihkgafhakaaGreatDoor
open Go.RowKit Go.Sort
theorem ZgC {pre : List Int} {ρ : Roles} {w : World} {f sp : Nat} {q : Int} {v : Value} {ns : List Nd} {fb : Int → Nat} {a : Int → Bool × List FRow} (h : ShAt pre ρ w f sp q false v ns fb a) (g : Bool) :
 ShareAt pre ρ (w.setCell ⟨sp, 2, none⟩ (.bool g)) f q g (ns.map (Zj a)) ∧ Fp (fun j => j = sp) w (w.setCell ⟨sp, 2, none⟩ (.bool g)) := by
 have hF : Fp (fun j => j = sp) w (w.setCell ⟨sp, 2, none⟩ (.bool g)) := (Fp.refl (fun j => j = sp) w).setCell (p := ⟨sp, 2, none⟩) (fun _ => rfl) _
 have hg := ZaC.1 h.pre'.good
 refine ⟨⟨sp, v, ns, fb, a, ⟨⟨hF.heap h.pre'.head (fun e => ?_), h.pre'.rf, ZdF h.pre'.spin hF (Ze h.pre'.spin.head), h.pre'.src, fun n hn => (h.pre'.ring n hn).frame hF (fun k _ ⟨s, hs⟩ e => ?_), h.pre'.q1, h.pre'.q2, ?_, h.pre'.idok⟩, h.full⟩, rfl⟩, hF⟩
 ·have h1 := h.pre'.rf
  rw [e, h.pre'.spin.rs] at h1
  simp at h1
 ·rw [e, h.pre'.spin.rs] at hs
  simp at hs
 ·cases ns with
  | nil => trivial
  | cons n r => exact ⟨(hg n List.mem_cons_self).mono (by split <;> omega), fun m hm => hg m (List.mem_cons_of_mem _ hm)⟩
def ZeJ (pre : List Int) (ρ : Roles) (w : World) (q : Int) (gv : Bool) (rows : List TRow) (e : Ending) (w' : World) : Prop :=
 Below w.heap.size w w' ∧ ((okTL q gv rows ∧ ∃ f ρ', e = .returned (.tuple #[.pointer (some ⟨f, 0, none⟩), .bool true]) ∧ Later ρ ρ' w ∧ ZA ρ' pre w.heap.size ∧ ShareAt pre ρ' w' f q gv rows ∧ w.heap.size ≤ f) ∨ (¬ okTL q gv rows ∧ e = .returned (.tuple #[.pointer none, .bool false])))
structure LdTState (pre : List Int) (ρ : Roles) (w : World) (q : Int) (rows : List TRow) (k : Nat) (wr : World) : Prop where
 ring : ∃ ρ', Later ρ ρ' w ∧ ZA ρ' pre w.heap.size ∧ ShareAt pre ρ' wr (w.heap.size + 1) q false (rows.take k)
 below : Below w.heap.size w wr
 ok : ∀ (i : Nat) x, i < k → rows[i]? = some x → okTIn q (rows.take i) x
theorem ZjN {pre : List Int} {ρ : Roles} {q : Int} {w w1 : World} (h1 : 1 ≤ q) (h2 : q ≤ 64) (rows : List TRow) (hw : w1 = (w.alloc (.cells #[.int .i64 q, .slice none 0 0, .bool false] 115)).alloc (.cells #[.pointer (some ⟨w.heap.size, 0, none⟩)] 117)) : LdTState pre ρ w q rows 0 w1 := by
 refine ⟨⟨fun k => if k < w.heap.size then ρ k else if k = w.heap.size then pre ++ [1] else if k = w.heap.size + 1 then pre ++ [6] else [], fun k hk => by simp [hk], fun k hk => ?_, by rw [hw]; exact Zjj w h1 h2 (by simp) (by simp [show ¬ w.heap.size + 1 < w.heap.size by omega])⟩, by rw [hw]; exact box_below.alloc (by simp) _, fun i x hi => by omega⟩
 unfold Part
 by_cases e1 : k = w.heap.size
 ·subst e1
  exact .inr ⟨[1], by simp⟩
 ·by_cases e2 : k = w.heap.size + 1
  ·subst e2
   exact .inr ⟨[6], by simp [show ¬ w.heap.size + 1 < w.heap.size by omega]⟩
  ·exact .inl (by simp [e1, e2, Nat.not_lt.2 hk])
def ZgD (p : TV) : Prop := I64 p.1.id ∧ ∀ r ∈ p.2.2, I64 r.1.id ∧ ∀ y ∈ r.1.its, I64 y.id
section
variable {pre : List Int} {ρ : Roles}
set_option maxRecDepth 100000 in
set_option maxHeartbeats 8000000 in
theorem ZgE (q : Int) (gv : Bool) (v : Value) (l : List TV) (w : World) (hl : TRowsAt w v l) (hfr : ∀ k, k < w.heap.size → ¬ Part ρ pre k) (hok : ∀ p ∈ l, ZgD p) (hf : totT (l.map Prod.fst) < 1000000) (hlen : l.length < 1000000) (hlens : ∀ p ∈ l, p.2.2.length < 1000000) :
 Calls Tryz.prog 79 #[.int .i64 q, v, .bool gv] w (ZeJ pre ρ w q gv (l.map Prod.fst)) := by
 obtain ⟨a, cap, rfl, -⟩ := hl.form
 have HL := Lib.hid hl
 have HFR := Lib.hid hfr
 have HOK := Lib.hid hok
 have HF := Lib.hid hf
 have HLEN := Lib.hid hlen
 have HLENS := Lib.hid hlens
 clear hl hfr hok hf hlen hlens
 by_cases hq : 1 ≤ q ∧ q ≤ 64
 ·have HQ := Lib.hid hq
  clear hq
  go_enter Tryz.func79, Tryz.ntmps79
  go_wp2_with fail
  refine (ZbD q _ HQ.out.1 HQ.out.2).mono ?_
  rintro e w1 ⟨rfl, hw1⟩
  have HS1 := Lib.hid (ZjN (pre := pre) (ρ := ρ) HQ.out.1 HQ.out.2 (l.map Prod.fst) hw1)
  clear hw1
  by_cases hg : gv = true ∧ l = []
  ·obtain ⟨rfl, rfl⟩ := hg
   go_wp2_with fail
   refine bodyPost_ret (v := .tuple #[.pointer none, .bool false]) (by simp [results, Tryz.results79, go_sem]) rfl ⟨HS1.out.below, .inr ⟨fun h => h.2.2.1 ⟨rfl, rfl⟩, rfl⟩⟩
  ·have HG0 := Lib.hid hg
   have hcase : gv = false ∨ (gv = true ∧ ((l.length : Int) == 0) = false) := by
    cases gv with
    | false => exact .inl rfl
    | true =>
      right
      refine ⟨rfl, ?_⟩
      have := List.length_pos_iff.2 (fun e => hg ⟨rfl, e⟩)
      rw [beq_eq_false_iff_ne]
      omega
   clear hg
   go_upto_region 2 with fail
   go_cut [22] (fun t wx => t = .bool false ∧ LdTState pre ρ w q (l.map Prod.fst) 0 wx)
   case first =>
    rcases hcase with rfl | ⟨rfl, hz⟩
    all_goals
     go_wp2_with fail
     go_meet
     case rel => exact ⟨rfl, HS1.out⟩
   case rest =>
    obtain ⟨rfl, hs2⟩ := hcut
    have HS2 := Lib.hid hs2
    clear hs2
    go_wp2_with fail
    go_loopg [25] l.length (fun g i wr => ∃ k : Nat, g = l.length - k ∧ i = .int .i64 k ∧ k ≤ l.length ∧ LdTState pre ρ w q (l.map Prod.fst) k wr)
    case atStart => exact ⟨0, rfl, rfl, Nat.zero_le _, HS2.out⟩
    case round =>
     obtain ⟨k, hg, rfl, hk, hS⟩ := hrel
     have HG := Lib.hid hg
     have HS := Lib.hid hS
     clear hg hS
     by_cases hlt : k < l.length
     ·obtain ⟨⟨x, vx, li⟩, hp⟩ : ∃ p, l[k]? = some p := ⟨_, List.getElem?_eq_getElem hlt⟩
      have hmem := List.mem_of_getElem? hp
      have HX := Lib.hid (show (l.map Prod.fst)[k]? = some x by rw [List.getElem?_map, hp]; rfl)
      obtain ⟨g, off, cap', hv, _, c0, c1, c2, c3, c4⟩ := (HL.out.below HS.out.below).at hp
      cases hv
      simp only at c0 c1 c2 c3 c4
      have hin := HL.out.inv _ hmem
      have HIN := Lib.hid (show RowsAt w vx li ∧ li.map Prod.fst = x.rows from hin)
      obtain ⟨ax, cx, hvx, -⟩ := hin.1.form
      simp only at hvx
      subst hvx
      have HNUM := Lib.hid (HOK.out _ hmem)
      have HLI := Lib.hid (HLENS.out _ hmem)
      have hkl : (k : Int) < (l.length : Int) := by omega
      clear hp hmem hin
      go_upto_region 7 with fail
      obtain ⟨w2, hw2⟩ : ∃ w2 : World, w2 = wr.alloc (.cells #[.int .i64 x.id, .int .i64 x.wt, .int .i64 x.df, .slice ax li.length cx, .bool x.gv] 140) := ⟨_, rfl⟩
      obtain ⟨bx, hbx⟩ : ∃ bx : Nat, bx = wr.heap.size := ⟨_, rfl⟩
      rw [← hw2, ← hbx]
      have HB2 := Lib.hid (show Below wr.heap.size wr w2 by rw [hw2]; exact box_below)
      obtain ⟨k0, k1, k2, k3, k4⟩ := Z8 (w := w2) (b := bx) (x := x) (vr := .slice ax li.length cx) (by rw [hw2, hbx]; exact Zf)
      clear hw2 hbx c0 c1 c2 c3 c4
      go_wp2_with fail
      obtain ⟨ρ', hl', hn', hR'⟩ := HS.out.ring
      have hbel2 := HS.out.below.trans (HB2.out.mono HS.out.below.size)
      have htm := Zci (List.mem_of_getElem? HX.out)
      refine (ZfJ x _ li _ w2 (hR'.below HB2.out) (HIN.out.1.below hbel2) HIN.out.2 (fun p hp => HNUM.out.2 p hp) HNUM.out.1 (Nat.lt_of_le_of_lt htm HF.out) HLI.out (by have h := HLEN.out; rw [List.length_take, List.length_map]; omega)).mono ?_
      rintro e w3 ⟨hF3, ⟨hin3, rfl, ρ3, hl3, hn3, hR3⟩ | ⟨hno3, rfl⟩⟩
      ·have hl03 : Later ρ ρ3 w := Zaf hl' hl3 hbel2.size
       have hn03 : ZA ρ3 pre w.heap.size := Zca hn' hl3 hn3
       have hb03 : Below w.heap.size w w3 := hbel2.trans (hF3.below hbel2.size (fun j hj hp => HFR.out j hj (ZaE hl' hj hp)))
       have HS3 := Lib.hid (show LdTState pre ρ w q (l.map Prod.fst) (k + 1) w3 from ⟨⟨ρ3, hl03, hn03, by
        have e : (l.map Prod.fst).take (k + 1) = (l.map Prod.fst).take k ++ [x] := by
         have hkm : k < (l.map Prod.fst).length := by rw [List.length_map]; exact hlt
         rw [List.take_succ_eq_append_getElem hkm, (List.getElem?_eq_some_iff.1 HX.out).2]
        rw [e]
        exact hR3⟩, hb03, fun i z hi hz => by
        rcases Nat.lt_or_ge i k with h | h
        ·exact HS.out.ok i z h hz
        ·obtain rfl : i = k := by omega
         obtain rfl : x = z := Option.some.inj (HX.out.symm.trans hz)
         exact hin3⟩)
       clear hl' hn' hR' hbel2 hl3 hn3 hR3 hF3 hl03 hn03 hb03 k0 k1 k2 k3 k4 hin3 htm
       go_wp2_with fail
       go_roundg (l.length - (k + 1))
       case rel =>
        have hlen := HLEN.out
        exact ⟨k + 1, rfl, by rw [show wrap64 ((k : Int) + 1) = ((k + 1 : Nat) : Int) by unfold wrap64; omega], by omega, HS3.out⟩
       case measure => have := HG.out; omega
      ·have HB3 := Lib.hid (hbel2.trans (hF3.below hbel2.size (fun j hj hp => HFR.out j hj (ZaE hl' hj hp))))
       have HNOT := Lib.hid (show ¬ okTL q gv (l.map Prod.fst) from fun h => hno3 (h.2.2.2 k x HX.out))
       clear hl' hn' hR' hbel2 hF3 k0 k1 k2 k3 k4 hno3 htm
       go_wp2_with fail
       exact bodyPost_ret (v := .tuple #[.pointer none, .bool false]) (by simp [results, Tryz.results79, go_sem]) rfl ⟨HB3.out, .inr ⟨HNOT.out, rfl⟩⟩
     ·have hkk : (l.map Prod.fst).take k = l.map Prod.fst := List.take_of_length_le (by rw [List.length_map]; omega)
      have HOKL := Lib.hid (show okTL q gv (l.map Prod.fst) from ⟨HQ.out.1, HQ.out.2, fun h => HG0.out ⟨h.1, by simpa using h.2⟩, fun i x hx => HS.out.ok i x (by have := (List.getElem?_eq_some_iff.1 hx).1; rw [List.length_map] at this; omega) hx⟩)
      obtain ⟨ρ', hl', hn', hR'⟩ := HS.out.ring
      rw [hkk] at hR'
      obtain ⟨sp, v', ns, fb, af, hr', hrows⟩ := hR'
      have HR' := Lib.hid hr'
      have HL' := Lib.hid hl'
      have HN' := Lib.hid hn'
      have HROWS := Lib.hid hrows
      have e0 := hr'.pre'.c0
      have s2 := hr'.pre'.spin.c2
      have f2 : wr.frozen? ⟨sp, 2, none⟩ = false := Zd hr'.pre'.spin.head
      clear hl' hn' hr' hrows hkk
      go_wp2_with fail
      obtain ⟨hset, hF⟩ := ZgC HR'.out gv
      rw [← HROWS.out] at hset
      refine bodyPost_ret (v := .tuple #[.pointer (some ⟨w.heap.size + 1, 0, none⟩), .bool true]) (by simp [results, Tryz.results79, go_sem]) rfl ⟨HS.out.below.trans (hF.below HS.out.below.size (fun j hj e => ?_)), .inl ⟨HOKL.out, w.heap.size + 1, ρ', rfl, HL'.out, HN'.out, hset, by omega⟩⟩
      rw [e] at hj
      exact HFR.out sp hj (ZaE HL'.out hj ⟨[1], HR'.out.pre'.spin.rs⟩)
 ·have HQ := Lib.hid hq
  clear hq
  go_enter Tryz.func79, Tryz.ntmps79
  go_wp2_with fail
  refine (Zep q _ HQ.out).mono ?_
  rintro e w1 ⟨rfl, hb1⟩
  have HB1 := Lib.hid hb1
  clear hb1
  go_wp2_with fail
  refine bodyPost_ret (v := .tuple #[.pointer none, .bool false]) (by simp [results, Tryz.results79, go_sem]) rfl ⟨HB1.out, .inr ⟨fun h => HQ.out ⟨h.1, h.2.1⟩, rfl⟩⟩
end
theorem ShareAt.rerole {pre : List Int} {ρ ρ' : Roles} {w : World} {f : Nat} {q : Int} {gv : Bool} {rows : List TRow} (h : ShareAt pre ρ w f q gv rows) (he : ∀ k, ρ k ≠ [] → ρ' k = ρ k) : ShareAt pre ρ' w f q gv rows := by
 obtain ⟨sp, v, ns, fb, a, h, e⟩ := h
 exact ⟨sp, v, ns, fb, a, ⟨⟨h.pre'.head, (he f (by rw [h.pre'.rf]; simp)).trans h.pre'.rf, h.pre'.spin.rerole he, h.pre'.src, fun n hn => (h.pre'.ring n hn).rerole he, h.pre'.q1, h.pre'.q2, h.pre'.good, h.pre'.idok⟩, h.full⟩, e⟩
theorem ZhA {pre : List Int} {ρ : Roles} (hpre : pre ≠ []) (q : Int) (gv : Bool) (v : Value) (l : List TV) (w : World) (hl : TRowsAt w v l) (hok : ∀ p ∈ l, ZgD p) (hf : totT (l.map Prod.fst) < 1000000) (hlen : l.length < 1000000) (hlens : ∀ p ∈ l, p.2.2.length < 1000000) :
 Calls Tryz.prog 79 #[.int .i64 q, v, .bool gv] w (ZeJ pre ρ w q gv (l.map Prod.fst)) := by
 refine (ZgE (ρ := fun _ => []) q gv v l w hl (fun k _ ⟨s, hs⟩ => hpre (List.append_eq_nil_iff.1 hs.symm).1) hok hf hlen hlens).mono ?_
 rintro e w' ⟨hb, ⟨ho, f, ρ', rfl, hl, hn, hR, hf⟩ | ⟨ho, rfl⟩⟩
 ·refine ⟨hb, .inl ⟨ho, f, fun k => if k < w.heap.size then ρ k else ρ' k, rfl, fun k hk => by simp [hk], fun k hk => ?_, hR.rerole (fun k hk => ?_), hf⟩⟩
  ·unfold Part
   simp only [if_neg (Nat.not_lt.2 hk)]
   exact hn k hk
  ·rcases Nat.lt_or_ge k w.heap.size with h | h
   ·exact absurd (hl k h) hk
   ·simp [Nat.not_lt.2 h]
 ·exact ⟨hb, .inr ⟨ho, rfl⟩⟩
def zeroR (x : FRow) : FRow := ⟨x.id, x.wt, 0, x.its⟩
theorem Zd0 (id : Int) (rows : List FRow) : findF id (rows.map zeroR) = findF id rows := by
 unfold findF
 rw [List.findIdx?_map]
 rfl
theorem Znu (rows : List FRow) : totR (rows.map zeroR) = totR rows := by
 unfold totR
 rw [List.map_map]
 rfl
structure RtState (b : Nat) (q : Int) (w : World) (rows : List FRow) (wr : World) : Prop where
 ref : ∃ v l, RefAt (fun j => j ≠ b) wr b q false v l ∧ l.map Prod.fst = rows
 below : Below w.heap.size w wr
 wb : w.heap.size ≤ b
theorem RtState.on {b : Nat} {q : Int} {w wr w' : World} {rows : List FRow} (h : RtState b q w rows wr) (hb : Below wr.heap.size wr w') : RtState b q w rows w' := by
 obtain ⟨v, l, hR, hm⟩ := h.ref
 exact ⟨⟨v, l, hR.below hb, hm⟩, h.below.trans (hb.mono h.below.size), h.wb⟩
theorem RtState.head {b : Nat} {q : Int} {w wr : World} {rows : List FRow} (h : RtState b q w rows wr) : ∃ v, wr.cell? ⟨b, 0, none⟩ = some (.int .i64 q) ∧ wr.cell? ⟨b, 1, none⟩ = some v ∧ wr.cell? ⟨b, 2, none⟩ = some (.bool false) ∧ b < wr.heap.size ∧
 ∀ w', Below wr.heap.size wr w' → ∀ id, Calls Tryz.prog 110 #[.agg #[.int .i64 q, v, .bool false], .int .i64 id] w' fun e w'' => e = .returned (.int .i64 (Za1 id rows)) ∧ Below w'.heap.size w' w'' := by
 obtain ⟨v, l, hR, hm⟩ := h.ref
 refine ⟨v, Za hR.head rfl, Za hR.head rfl, Za hR.head rfl, Zb hR.head, fun w' hb id => ?_⟩
 have h := ZbO id q false v l w' (hR.below hb).rows hR.few
 rw [hm] at h
 exact h
theorem RtState.push {b : Nat} {q : Int} {w wr : World} {rows : List FRow} (h : RtState b q w rows wr) (id wt : Int) (x : It) (hfull : ∀ r ∈ rows, r.its ≠ []) (hf : totR rows < 1000000) :
 Calls Tryz.prog 102 #[.pointer (some ⟨b, 0, none⟩), .int .i64 id, .int .i64 wt, .agg #[.int .i64 x.id, .int .i64 x.cost]] wr fun e w' => e = .returned (.int .i64 (pushE id wt x rows)) ∧ RtState b q w (ZQ id wt x rows) w' ∧ Fp (fun j => j = b) wr w' := by
 obtain ⟨v, l, hR, rfl⟩ := h.ref
 refine (Zje id wt x b q false v l wr hR hfull hf).mono ?_
 rintro e w' ⟨rfl, hF, v', l', hR', hm⟩
 exact ⟨rfl, ⟨⟨v', l', hR', hm⟩, h.below.trans (hF.below h.below.size (fun j hj e => by have := h.wb; omega)), h.wb⟩, hF⟩
def Zmg (q : Int) (gv : Bool) (rows : List FRow) (w : World) (e : Ending) (w' : World) : Prop := (∃ r, e = .returned (.bool r) ∧ (r = true ↔ okL q gv rows)) ∧ Below w.heap.size w w'
theorem ZbY {q : Int} {gv : Bool} {rows : List FRow} {w w' : World} (hn : ¬ okL q gv rows) (hb : Below w.heap.size w w') : Zmg q gv rows w (.returned (.bool false)) w' := ⟨⟨false, rfl, fun h => absurd h (by decide), fun h => absurd h hn⟩, hb⟩
structure RtAll (b : Nat) (q : Int) (w : World) (rows : List FRow) (i : Nat) (wr : World) : Prop where
 st : RtState b q w ((rows.take i).map zeroR) wr
 ok : ∀ (j : Nat) x, j < i → rows[j]? = some x → okIn (rows.take j) x
structure RtRow (b : Nat) (q : Int) (w : World) (rows : List FRow) (i : Nat) (x : FRow) (j : Nat) (wr : World) : Prop where
 st : RtState b q w ((rows.take i).map zeroR ++ partR x j) wr
 ok : ∀ (m : Nat) y, m < j → x.its[m]? = some y → ¬ Zz x.id x.wt ∧ itE (x.its.take m) y = 0
theorem RtAll.full {b : Nat} {q : Int} {w wr : World} {rows : List FRow} {i : Nat} (h : RtAll b q w rows i wr) (x : FRow) (j : Nat) (hj : j ≤ x.its.length) : ∀ r ∈ (rows.take i).map zeroR ++ partR x j, r.its ≠ [] := by
 intro r hr
 rcases List.mem_append.1 hr with hr | hr
 ·obtain ⟨z, hz, rfl⟩ := List.mem_map.1 hr
  obtain ⟨m, hm⟩ := List.mem_iff_getElem?.1 hz
  rw [List.getElem?_take] at hm
  split at hm
  ·rename_i hmi
   exact (h.ok m z hmi hm).2.2.2.1
  ·cases hm
 ·unfold partR at hr
  split at hr
  ·cases hr
  ·rw [List.mem_singleton] at hr
   subst hr
   intro e
   have := congrArg List.length e
   rw [List.length_take, List.length_nil] at this
   omega
theorem Znv {q : Int} {w wc : World} {rows : List FRow} (hb : Below w.heap.size w wc) : RtAll wc.heap.size q w rows 0 (wc.alloc (.cells #[.int .i64 q, .slice none 0 0, .bool false] 104)) :=
 ⟨⟨⟨.slice none 0 0, [], ⟨Zf, ⟨⟨none, 0, rfl, Nat.le_refl _, fun j u hu => by simp [Zt] at hu⟩, fun p hp => by cases hp⟩, fun hl => absurd rfl hl, fun p hp => by (cases hp), fun hb => hb rfl, fun k hk => by (simp at hk; omega), by simp, fun p hp => by (cases hp)⟩, rfl⟩, hb.alloc hb.size _, hb.size⟩, fun j x hj => by omega⟩
set_option maxRecDepth 100000 in
set_option maxHeartbeats 8000000 in
theorem Zix (q : Int) (gv : Bool) (v : Value) (l : List (FRow × Value)) (w : World) (hl : RowsAt w v l) (hf : totR (l.map Prod.fst) < 1000000) (hlen : l.length < 1000000) :
 Calls Tryz.prog 81 #[.int .i64 q, v, .bool gv] w (Zmg q gv (l.map Prod.fst) w) := by
 obtain ⟨a, cap, rfl, -⟩ := hl.form
 have HL := Lib.hid hl
 have HF := Lib.hid hf
 have HLEN := Lib.hid hlen
 clear hl hf hlen
 by_cases hq : 1 ≤ q ∧ q ≤ 64
 ·have hq1 : ¬ q < 1 := by omega
  have hq2 : ¬ 64 < q := by omega
  have HQ := Lib.hid hq
  clear hq
  by_cases hg : gv = true ∧ l = []
  ·obtain ⟨rfl, rfl⟩ := hg
   go_enter Tryz.func81, Tryz.ntmps81
   go_wp2_with fail
   go_ret
   exact ZbY (fun h => absurd ⟨rfl, rfl⟩ h.2.2.1) (Below.refl _ _)
  ·have HG0 := Lib.hid hg
   have hcase : gv = false ∨ (gv = true ∧ ((l.length : Int) == 0) = false) := by
    cases gv with
    | false => exact .inl rfl
    | true =>
      right
      refine ⟨rfl, ?_⟩
      have := List.length_pos_iff.2 (fun e => hg ⟨rfl, e⟩)
      rw [beq_eq_false_iff_ne]
      omega
   clear hg
   go_enter Tryz.func81, Tryz.ntmps81
   go_upto_region 1 with fail
   go_cut [23] (fun t wx => t = .bool false ∧ Below w.heap.size w wx)
   case first =>
    rcases hcase with rfl | ⟨rfl, hz⟩
    all_goals
     go_wp2_with fail
     go_meet
     case rel => exact ⟨rfl, Below.refl _ _⟩
   case rest =>
    obtain ⟨rfl, hbc⟩ := hcut
    have HS0 := Lib.hid (Znv (q := q) (rows := l.map Prod.fst) hbc)
    clear hbc hcase
    go_upto_region 4 with fail
    obtain ⟨w1, hw1⟩ : ∃ w1 : World, w1 = wc.alloc (.cells #[.int .i64 q, .slice none 0 0, .bool false] 104) := ⟨_, rfl⟩
    obtain ⟨b, hb⟩ : ∃ b : Nat, b = wc.heap.size := ⟨_, rfl⟩
    rw [← hw1, ← hb] at HS0
    rw [← hw1, ← hb]
    clear hw1 hb
    go_wp2_with fail
    go_loopg [8] l.length (fun g u wr => ∃ i : Nat, g = l.length - i ∧ u = .int .i64 i ∧ i ≤ l.length ∧ RtAll b q w (l.map Prod.fst) i wr)
    case atStart => exact ⟨0, rfl, rfl, Nat.zero_le _, HS0.out⟩
    case round =>
     obtain ⟨i, hg, rfl, hi, hS⟩ := hrel
     have HG := Lib.hid hg
     have HS := Lib.hid hS
     clear hg hS
     by_cases hlt : i < l.length
     ·obtain ⟨⟨x, vx⟩, hp⟩ : ∃ p, l[i]? = some p := ⟨_, List.getElem?_eq_getElem hlt⟩
      have HX := Lib.hid (show (l.map Prod.fst)[i]? = some x by rw [List.getElem?_map, hp]; rfl)
      obtain ⟨g, off, cap', hv, _, c0, c1, c2, c3⟩ := HL.out.at hp
      cases hv
      simp only at c0 c1 c2 c3
      have HIT := Lib.hid (HL.out.its _ (List.mem_of_getElem? hp))
      obtain ⟨ax, cx, rfl⟩ : ∃ ax cx, vx = .slice ax x.its.length cx := ZN (HL.out.its _ (List.mem_of_getElem? hp))
      have hkl : (i : Int) < (l.length : Int) := by omega
      have HC0 := Lib.hid c0
      have HC1 := Lib.hid c1
      have HC3 := Lib.hid c3
      have d0 := cell_regrown (Zc HS.out.st.below c0)
      have d2 := cell_regrown (Zc HS.out.st.below c2)
      have d3 := cell_regrown (Zc HS.out.st.below c3)
      obtain ⟨v1, b0, b1, b2, -, hfind⟩ := HS.out.st.head
      have b0 := cell_regrown b0
      have b1 := cell_regrown b1
      have b2 := cell_regrown b2
      have hfind : ∀ (d : Nat) (os : Array Obj), Calls Tryz.prog 110 #[.agg #[.int .i64 q, v1, .bool false], .int .i64 x.id] (grow (redrawn wr d) os) fun e w' => e = .returned (.int .i64 (Za1 x.id ((l.map Prod.fst).take i))) ∧ Below (grow (redrawn wr d) os).heap.size (grow (redrawn wr d) os) w' := fun d os => by
       have h := hfind _ (below_regrown wr d os) x.id
       unfold Za1 at h ⊢
       rw [Zd0] at h
       exact h
      have HTOT := Lib.hid (Ziv (l.map Prod.fst) i HX.out)
      clear hp c0 c1 c2 c3
      rcases hfd : findF x.id ((l.map Prod.fst).take i) with _ | m
      ·rw [Zfg hfd] at hfind
       have HFIND := Lib.hid hfind
       have HFD := Lib.hid hfd
       clear hfind hfd
       by_cases hbad : x.its = [] ∨ x.df < 0 ∨ 1088 < x.df
       ·have HNOT := Lib.hid (show ¬ okL q gv (l.map Prod.fst) from fun h => by
         have ho := h.2.2.2 i x HX.out
         rcases hbad with h | h | h
         ·exact ho.2.2.2.1 h
         ·have := ho.2.1
          omega
         ·have := ho.2.2.1
          omega)
        have hcase : decide (x.df < 0) = true ∨ (decide (x.df < 0) = false ∧ decide (1088 < x.df) = true) ∨ (decide (x.df < 0) = false ∧ decide (1088 < x.df) = false ∧ ((x.its.length : Int) == 0) = true) := by
         simp only [beq_iff_eq, decide_eq_true_eq, decide_eq_false_iff_not]
         by_cases h1 : x.df < 0
         ·exact .inl h1
         ·by_cases h2 : 1088 < x.df
          ·exact .inr (.inl ⟨h1, h2⟩)
          ·refine .inr (.inr ⟨h1, h2, ?_⟩)
           rcases hbad with h | h | h
           ·simp [h]
           ·exact absurd h h1
           ·exact absurd h h2
        clear hbad
        go_upto_region 7 with fail
        rcases hcase with g1 | ⟨g1, g2⟩ | ⟨g1, g2, g3⟩
        ·have h1 : x.df < 0 := of_decide_eq_true g1
         refine wp_region_quiet_below (by kernel_rfl) (by kernel_rfl) ?_
         repeat (go_big_quiet_step (exact Calls.regrown_of (HFIND.out _ _)))
         refine wpQuiet_nil ?_
         rintro _ ⟨⟨dq, osq⟩, rfl⟩
         clear d0 d2 d3 b0 b1 b2
         go_wp2_with fail
         go_ret
         exact ZbY HNOT.out (Zp HS.out.st.below HS.out.st.below.size)
        ·have h2 : 1088 < x.df := of_decide_eq_true g2
         refine wp_region_quiet_below (by kernel_rfl) (by kernel_rfl) ?_
         repeat (go_big_quiet_step (exact Calls.regrown_of (HFIND.out _ _)))
         refine wpQuiet_nil ?_
         rintro _ ⟨⟨dq, osq⟩, rfl⟩
         clear d0 d2 d3 b0 b1 b2
         go_wp2_with fail
         go_ret
         exact ZbY HNOT.out (Zp HS.out.st.below HS.out.st.below.size)
        ·refine wp_region_quiet_below (by kernel_rfl) (by kernel_rfl) ?_
         repeat (go_big_quiet_step (exact Calls.regrown_of (HFIND.out _ _)))
         refine wpQuiet_nil ?_
         rintro _ ⟨⟨dq, osq⟩, rfl⟩
         clear d0 d2 d3 b0 b1 b2
         go_wp2_with fail
         go_ret
         exact ZbY HNOT.out (Zp HS.out.st.below HS.out.st.below.size)
       ·have HGOOD := Lib.hid hbad
        have g1 : decide (x.df < 0) = false := decide_eq_false (fun h => hbad (.inr (.inl h)))
        have g2 : decide (1088 < x.df) = false := decide_eq_false (fun h => hbad (.inr (.inr h)))
        have g3 : ((x.its.length : Int) == 0) = false := by
         rw [beq_eq_false_iff_ne]
         intro e
         exact hbad (.inl (List.length_eq_zero_iff.1 (by omega)))
        clear hbad
        go_upto_region 7 with fail
        refine wp_region_quiet_below (by kernel_rfl) (by kernel_rfl) ?_
        repeat (go_big_quiet_step (exact Calls.regrown_of (HFIND.out _ _)))
        refine wpQuiet_nil ?_
        rintro _ ⟨⟨dq, osq⟩, rfl⟩
        clear d0 d2 d3 b0 b1 b2 HFIND
        obtain ⟨w2, hw2⟩ : ∃ w2 : World, w2 = grow (redrawn wr dq) osq := ⟨_, rfl⟩
        have HS2 := Lib.hid (show RtRow b q w (l.map Prod.fst) i x 0 w2 from ⟨by rw [hw2, show ((l.map Prod.fst).take i).map zeroR ++ partR x 0 = ((l.map Prod.fst).take i).map zeroR by simp [partR]]; exact HS.out.st.on (below_regrown wr dq osq), fun m y hm => by omega⟩)
        rw [← hw2]
        clear hw2
        go_wp2_with fail
        go_loopg [9] x.its.length (fun g u wr => ∃ j : Nat, g = x.its.length - j ∧ u = .int .i64 j ∧ j ≤ x.its.length ∧ RtRow b q w (l.map Prod.fst) i x j wr)
        case atStart => exact ⟨0, rfl, rfl, Nat.zero_le _, HS2.out⟩
        case round =>
         obtain ⟨j, hg', rfl, hj, hR⟩ := hrel
         have HG' := Lib.hid hg'
         have HR := Lib.hid hR
         have c3 := Zc hR.st.below HC3.out
         clear hg' hR
         by_cases hjl : j < x.its.length
         ·obtain ⟨y, hy⟩ : ∃ y, x.its[j]? = some y := ⟨_, List.getElem?_eq_getElem hjl⟩
          have HY := Lib.hid hy
          obtain ⟨gi, offi, ci', hv, i0, i1⟩ := ZbA HIT.out hy
          cases hv
          have HI0 := Lib.hid i0
          have HI1 := Lib.hid i1
          have hji : (j : Int) < (x.its.length : Int) := by omega
          have c0 := Zc HR.out.st.below HC0.out
          have c1 := Zc HR.out.st.below HC1.out
          have i0 := Zc HR.out.st.below i0
          have i1 := Zc HR.out.st.below i1
          have HSD := Lib.hid (HR.out.st.on (w' := wr.drew) ⟨rfl, rfl, rfl, Nat.le_refl _, fun _ _ => rfl⟩)
          have HFULL := Lib.hid (HS.out.full x j hj)
          have HTT := Lib.hid (show totR (((l.map Prod.fst).take i).map zeroR ++ partR x j) < 1000000 by
           rw [ZeQ, Znu]
           have h1 := Zh0 x j
           have h2 := HTOT.out
           have h3 := HF.out
           omega)
          have HPP := Lib.hid (ZgT (rows := ((l.map Prod.fst).take i).map zeroR) (x := x) (j := j) (y := y) (by rw [Zd0]; exact HFD.out))
          obtain ⟨P, hPE⟩ : ∃ P, pushE x.id x.wt y (((l.map Prod.fst).take i).map zeroR ++ partR x j) = P := ⟨_, rfl⟩
          have HPE := Lib.hid hPE
          clear hy hPE
          go_upto_region 12 with fail
          go_region_held3 (fun w' => w'.cell? ⟨g, off + i * 4, none⟩ = some (.int .i64 x.id) ∧ w'.cell? ⟨g, off + i * 4 + 1, none⟩ = some (.int .i64 x.wt) ∧ w'.cell? ⟨g, off + i * 4 + 3, none⟩ = some (.slice (some ⟨gi, offi, none⟩) x.its.length cx) ∧ w'.cell? ⟨gi, offi + j * 2, none⟩ = some (.int .i64 y.id) ∧ w'.cell? ⟨gi, offi + j * 2 + 1, none⟩ = some (.int .i64 y.cost))
           (first | go_keep | exact ⟨Zc hS9.below HC0.out, Zc hS9.below HC1.out, Zc hS9.below HC3.out, Zc hS9.below HI0.out, Zc hS9.below HI1.out⟩)
           (first | (go_at_call 102; refine (HSD.out.push x.id x.wt y HFULL.out HTT.out).mono ?_; rintro e w9 ⟨rfl, hS9, -⟩; rw [HPE.out]))
          have HS9 := Lib.hid hS9
          clear hS9 c0 c1 c3 i0 i1
          by_cases h0 : P = 0
          ·have hne : (P != 0) = false := by simp [h0]
           have H0 := Lib.hid h0
           clear h0
           go_wp2_with fail
           go_roundg (x.its.length - (j + 1))
           case rel =>
            have h1 := HTOT.out
            have h2 := HF.out
            refine ⟨j + 1, rfl, by rw [show wrap64 ((j : Int) + 1) = ((j + 1 : Nat) : Int) by unfold wrap64; omega], by omega, ?_, fun m z hm hz => ?_⟩
            ·rw [← ZgU (by rw [Zd0]; exact HFD.out) HY.out (HPE.out.trans H0.out)]
             exact HS9.out
            ·rcases Nat.lt_or_ge m j with h | h
             ·exact HR.out.ok m z h hz
             ·obtain rfl : m = j := by omega
              obtain rfl : y = z := Option.some.inj (HY.out.symm.trans hz)
              have h := HPP.out.symm.trans (HPE.out.trans H0.out)
              split at h
              ·cases h
              ·rename_i hb
               exact ⟨hb, h⟩
           case measure => have := HG'.out; omega
          ·have hne : (P != 0) = true := by simp [h0]
           have HNOT := Lib.hid (show ¬ okL q gv (l.map Prod.fst) from fun h => h0 (by
            have ho := h.2.2.2 i x HX.out
            rw [← HPE.out, HPP.out, if_neg ho.2.2.2.2.1]
            exact ho.2.2.2.2.2 j y HY.out))
           clear h0
           go_wp2_with fail
           go_ret
           exact ZbY HNOT.out HS9.out.below
         ·have hjj : j = x.its.length := by omega
          have hne : x.its ≠ [] := fun h => HGOOD.out (.inl h)
          have hpos := List.length_pos_iff.2 hne
          obtain ⟨y, ys, hy⟩ : ∃ y ys, x.its = y :: ys := by
           cases h : x.its with
           | nil => exact absurd h hne
           | cons y ys => exact ⟨y, ys, rfl⟩
          have hrow : okRow x := ⟨(HR.out.ok 0 y (by omega) (by rw [hy]; rfl)).1, fun m z hz => (HR.out.ok m z (by have := (List.getElem?_eq_some_iff.1 hz).1; omega) hz).2⟩
          have HOKI := Lib.hid (show okIn ((l.map Prod.fst).take i) x from ⟨HFD.out, Int.not_lt.1 (fun h => HGOOD.out (.inr (.inl h))), Int.not_lt.1 (fun h => HGOOD.out (.inr (.inr h))), hne, hrow⟩)
          have HS3 := Lib.hid (show RtAll b q w (l.map Prod.fst) (i + 1) wr from ⟨by
           have h := HR.out.st
           have hkm : i < (l.map Prod.fst).length := by rw [List.length_map]; exact hlt
           rw [show ((l.map Prod.fst).take (i + 1)).map zeroR = ((l.map Prod.fst).take i).map zeroR ++ partR x j by
            rw [List.take_succ_eq_append_getElem hkm, (List.getElem?_eq_some_iff.1 HX.out).2, List.map_append]
            unfold partR
            rw [if_neg (by omega), hjj, List.take_length]
            rfl]
           exact h, fun m z hm hz => by
           rcases Nat.lt_or_ge m i with h | h
           ·exact HS.out.ok m z h hz
           ·obtain rfl : m = i := by omega
            obtain rfl : x = z := Option.some.inj (HX.out.symm.trans hz)
            exact HOKI.out⟩)
          clear hjj hne hpos hy hrow
          go_wp2_with fail
          go_roundg (l.length - (i + 1))
          case rel =>
           have hlen := HLEN.out
           exact ⟨i + 1, rfl, by rw [show wrap64 ((i : Int) + 1) = ((i + 1 : Nat) : Int) by unfold wrap64; omega], by omega, HS3.out⟩
          case measure => have := HG.out; omega
      ·rw [Zdf hfd] at hfind
       have HNOT := Lib.hid (show ¬ okL q gv (l.map Prod.fst) from fun h => by
        have ho := (h.2.2.2 i x HX.out).1
        rw [hfd] at ho
        cases ho)
       have HFIND := Lib.hid hfind
       have hm0 : (m : Int) ≥ 0 := by omega
       clear hfind hfd
       go_upto_region 7 with fail
       refine wp_region_quiet_below (by kernel_rfl) (by kernel_rfl) ?_
       repeat (go_big_quiet_step (exact Calls.regrown_of (HFIND.out _ _)))
       refine wpQuiet_nil ?_
       rintro _ ⟨⟨dq, osq⟩, rfl⟩
       clear d0 d2 d3 b0 b1 b2
       go_wp2_with fail
       go_ret
       exact ZbY HNOT.out (Zp HS.out.st.below HS.out.st.below.size)
     ·have HOKL := Lib.hid (show okL q gv (l.map Prod.fst) from ⟨HQ.out.1, HQ.out.2, fun h => HG0.out ⟨h.1, by simpa using h.2⟩, fun m x hx => HS.out.ok m x (by have := (List.getElem?_eq_some_iff.1 hx).1; rw [List.length_map] at this; omega) hx⟩)
      go_wp2_with fail
      go_ret
      exact ⟨⟨true, rfl, fun _ => HOKL.out, fun _ => rfl⟩, HS.out.st.below⟩
 ·have HQ := Lib.hid hq
  have hq3 : q < 1 ∨ (¬ q < 1 ∧ 64 < q) := by omega
  clear hq
  go_enter Tryz.func81, Tryz.ntmps81
  rcases hq3 with hq1 | ⟨hq1, hq2⟩
  all_goals
   go_wp2_with fail
   go_ret
   exact ZbY (fun h => absurd ⟨h.1, h.2.1⟩ HQ.out) (Below.refl _ _)
def Zj8 (q : Int) (gv : Bool) (rows : List TRow) (w : World) (e : Ending) (w' : World) : Prop := (∃ r, e = .returned (.bool r) ∧ (r = true ↔ okTL q gv rows)) ∧ Below w.heap.size w w'
theorem ZaX {q : Int} {gv : Bool} {rows : List TRow} {w w' : World} (hn : ¬ okTL q gv rows) (hb : Below w.heap.size w w') : Zj8 q gv rows w (.returned (.bool false)) w' := ⟨⟨false, rfl, fun h => absurd h (by decide), fun h => absurd h hn⟩, hb⟩
theorem Zk8 {rows : List TRow} {i : Nat} {id : Int} (hn : ∀ j y, j < i → rows[j]? = some y → y.id ≠ id) : findT id (rows.take i) = none := by
 refine ZkP (fun j y hj hy => ?_)
 rw [List.length_take] at hj
 rw [List.getElem?_take_of_lt (by omega)] at hy
 exact hn j y (by omega) hy
theorem ZgF {rows : List TRow} {i j : Nat} {y : TRow} {id : Int} (hj : j < i) (hy : rows[j]? = some y) (hid : y.id = id) : findT id (rows.take i) ≠ none := by
 intro h
 unfold findT at h
 have hy' : (rows.take i)[j]? = some y := by rw [List.getElem?_take_of_lt hj]; exact hy
 have := List.findIdx?_eq_none_iff.1 h y (List.mem_of_getElem? hy')
 simp [hid] at this
def dv6 (p : DV) (pa : Option Addr) (pc : Nat) : Obj := .cells #[.int .i64 p.1.id, .int .i64 p.1.wt, .int .i64 p.1.df, .int .i64 p.2.1, .slice pa p.2.2.2.length pc, .bool p.1.gv] 106 (0, 0)
set_option maxRecDepth 100000 in
set_option maxHeartbeats 8000000 in
theorem Ziy (q : Int) (gv : Bool) (v : Value) (l : List DV) (w : World) (hl : DRowsAt w v l) (hf : totT (l.map Prod.fst) < 1000000) (hlen : l.length < 1000000) (hlens : ∀ p ∈ l, p.2.2.2.length < 1000000) :
 Calls Tryz.prog 54 #[.int .i64 q, v, .bool gv] w (Zj8 q gv (l.map Prod.fst) w) := by
 obtain ⟨a, cap, rfl, -⟩ := hl.form
 have HL := Lib.hid hl
 have HF := Lib.hid hf
 have HLEN := Lib.hid hlen
 have HLENS := Lib.hid hlens
 clear hl hf hlen hlens
 by_cases hq : 1 ≤ q ∧ q ≤ 64
 ·have hq1 : ¬ q < 1 := by omega
  have hq2 : ¬ 64 < q := by omega
  have HQ := Lib.hid hq
  clear hq
  by_cases hg : gv = true ∧ l = []
  ·obtain ⟨rfl, rfl⟩ := hg
   go_enter Tryz.func54, Tryz.ntmps54
   go_wp2_with fail
   go_ret
   exact ZaX (fun h => absurd ⟨rfl, rfl⟩ h.2.2.1) (Below.refl _ _)
  ·have HG0 := Lib.hid hg
   have hcase : gv = false ∨ (gv = true ∧ ((l.length : Int) == 0) = false) := by
    cases gv with
    | false => exact .inl rfl
    | true =>
      right
      refine ⟨rfl, ?_⟩
      have := List.length_pos_iff.2 (fun e => hg ⟨rfl, e⟩)
      rw [beq_eq_false_iff_ne]
      omega
   clear hg
   go_enter Tryz.func54, Tryz.ntmps54
   go_upto_region 1 with fail
   go_cut [23] (fun t wx => t = .bool false ∧ Below w.heap.size w wx)
   case first =>
    rcases hcase with rfl | ⟨rfl, hz⟩
    all_goals
     go_wp2_with fail
     go_meet
     case rel => exact ⟨rfl, Below.refl _ _⟩
   case rest =>
    obtain ⟨rfl, hbc⟩ := hcut
    have HBC := Lib.hid hbc
    clear hbc hcase
    go_wp2_with fail
    go_loopg [7] l.length (fun g u wr => ∃ i : Nat, g = l.length - i ∧ u = .int .i64 i ∧ i ≤ l.length ∧ Below w.heap.size w wr ∧ ∀ (j : Nat) x, j < i → (l.map Prod.fst)[j]? = some x → okTIn q ((l.map Prod.fst).take j) x)
    case atStart => exact ⟨0, rfl, rfl, Nat.zero_le _, HBC.out, fun j x hj => by omega⟩
    case round =>
     obtain ⟨i, hg, rfl, hi, hB, hS⟩ := hrel
     have HG := Lib.hid hg
     have HB := Lib.hid hB
     have HS := Lib.hid hS
     clear hg hB hS
     by_cases hlt : i < l.length
     ·obtain ⟨p, hp⟩ : ∃ p, l[i]? = some p := ⟨_, List.getElem?_eq_getElem hlt⟩
      have hmem := List.mem_of_getElem? hp
      have HX := Lib.hid (show (l.map Prod.fst)[i]? = some p.1 by rw [List.getElem?_map, hp]; rfl)
      obtain ⟨g, off, cap', hv, _, c0, c1, c2, c3, c4, c5⟩ := (HL.out.below HB.out).at hp
      cases hv
      have hin := HL.out.inv _ hmem
      have HIN := Lib.hid hin
      obtain ⟨pa, pc, hpv, -⟩ := hin.rows.form
      rw [hpv] at c4
      have HPV := Lib.hid hpv
      have HLI := Lib.hid (HLENS.out _ hmem)
      have HTI := Lib.hid (show totR (p.2.2.2.map Prod.fst) < 1000000 by rw [hin.same]; exact Nat.lt_of_le_of_lt (Zci (List.mem_of_getElem? HX.out)) HF.out)
      have hkl : (i : Int) < (l.length : Int) := by omega
      clear hp hmem hin hpv
      go_upto_region 7 with fail
      obtain ⟨w2, hw2⟩ : ∃ w2 : World, w2 = wr.alloc (.cells #[.int .i64 p.1.id, .int .i64 p.1.wt, .int .i64 p.1.df, .int .i64 p.2.1, .slice pa p.2.2.2.length pc, .bool p.1.gv] 106) := ⟨_, rfl⟩
      obtain ⟨bx, hbx⟩ : ∃ bx : Nat, bx = wr.heap.size := ⟨_, rfl⟩
      rw [← hw2, ← hbx]
      have HB2 := Lib.hid (HB.out.trans ((show Below wr.heap.size wr w2 by rw [hw2]; exact box_below).mono HB.out.size))
      have hk : w2.heap[bx]? = some (dv6 p pa pc) := by rw [hw2, hbx]; exact Zf
      have HK := Lib.hid hk
      have HBW := Lib.hid (show w.heap.size ≤ bx by rw [hbx]; exact HB.out.size)
      have k0 : w2.cell? ⟨bx, 0, none⟩ = some (.int .i64 p.1.id) := Za hk rfl
      have k1 : w2.cell? ⟨bx, 1, none⟩ = some (.int .i64 p.1.wt) := Za hk rfl
      have k2 : w2.cell? ⟨bx, 2, none⟩ = some (.int .i64 p.1.df) := Za hk rfl
      have k4 : w2.cell? ⟨bx, 4, none⟩ = some (.slice pa p.2.2.2.length pc) := Za hk rfl
      have k5 : w2.cell? ⟨bx, 5, none⟩ = some (.bool p.1.gv) := Za hk rfl
      clear hw2 hbx c0 c1 c2 c3 c4 c5 hk
      by_cases hc : p.1.id < 0
      ·have HNOT := Lib.hid (show ¬ okTL q gv (l.map Prod.fst) from fun h0 => (fun h => absurd (.inl hc) h.2.1 : okTIn q ((l.map Prod.fst).take i) p.1 → False) (h0.2.2.2 i p.1 HX.out))
       go_wp2_with fail
       go_ret
       exact ZaX HNOT.out HB2.out
      ·have g0 : ¬ p.1.id < 0 := hc
       clear hc
       by_cases hc : p.1.wt < 1
       ·have HNOT := Lib.hid (show ¬ okTL q gv (l.map Prod.fst) from fun h0 => (fun h => absurd (.inr (.inl hc)) h.2.1 : okTIn q ((l.map Prod.fst).take i) p.1 → False) (h0.2.2.2 i p.1 HX.out))
        go_wp2_with fail
        go_ret
        exact ZaX HNOT.out HB2.out
       ·have g1 : ¬ p.1.wt < 1 := hc
        clear hc
        by_cases hc : 16 < p.1.wt
        ·have HNOT := Lib.hid (show ¬ okTL q gv (l.map Prod.fst) from fun h0 => (fun h => absurd (.inr (.inr hc)) h.2.1 : okTIn q ((l.map Prod.fst).take i) p.1 → False) (h0.2.2.2 i p.1 HX.out))
         go_wp2_with fail
         go_ret
         exact ZaX HNOT.out HB2.out
        ·have g2 : ¬ 16 < p.1.wt := hc
         clear hc
         by_cases hc : p.1.df < 0
         ·have HNOT := Lib.hid (show ¬ okTL q gv (l.map Prod.fst) from fun h0 => (fun h => absurd h.2.2.1 (Int.not_le.2 hc) : okTIn q ((l.map Prod.fst).take i) p.1 → False) (h0.2.2.2 i p.1 HX.out))
          go_wp2_with fail
          go_ret
          exact ZaX HNOT.out HB2.out
         ·have g3 : ¬ p.1.df < 0 := hc
          clear hc
          by_cases hc : 1088 < p.1.df
          ·have HNOT := Lib.hid (show ¬ okTL q gv (l.map Prod.fst) from fun h0 => (fun h => absurd h.2.2.2.1 (Int.not_le.2 hc) : okTIn q ((l.map Prod.fst).take i) p.1 → False) (h0.2.2.2 i p.1 HX.out))
           go_wp2_with fail
           go_ret
           exact ZaX HNOT.out HB2.out
          ·have g4 : ¬ 1088 < p.1.df := hc
           clear hc
           by_cases hc : p.1.rows = []
           ·have HNOT := Lib.hid (show ¬ okTL q gv (l.map Prod.fst) from fun h0 => absurd hc (h0.2.2.2 i p.1 HX.out).2.2.2.2.1)
            have hz : ((p.2.2.2.length : Int) == 0) = true := by rw [← List.length_map (f := Prod.fst), HIN.out.same, hc]; rfl
            clear hc
            go_wp2_with fail
            go_ret
            exact ZaX HNOT.out HB2.out
           ·have hz : ((p.2.2.2.length : Int) == 0) = false := by
             rw [← List.length_map (f := Prod.fst), HIN.out.same, beq_eq_false_iff_ne]
             have := List.length_pos_iff.2 hc
             omega
            have HNE := Lib.hid hc
            have HNB := Lib.hid (show ¬ Zz p.1.id p.1.wt from fun h => by rcases h with h | h | h; exact g0 h; exact g1 h; exact g2 h)
            have HD := Lib.hid (And.intro (Int.not_lt.1 g3) (Int.not_lt.1 g4))
            clear hc
            go_wp2_with fail
            refine (Zix q p.1.gv _ p.2.2.2 w2 (by rw [← HPV.out]; exact HIN.out.rows.below HB2.out) HTI.out HLI.out).mono ?_
            rintro e w3 ⟨⟨r, rfl, hr⟩, hb3⟩
            rw [HIN.out.same] at hr
            have HB3 := Lib.hid (HB2.out.trans (hb3.mono HB2.out.size))
            have HK3 := Lib.hid ((hb3.block bx (Zb HK.out)).trans HK.out)
            have HR := Lib.hid hr
            clear hb3 hr k0 k1 k2 k4 k5 g0 g1 g2 g3 g4 hz
            cases r with
            | false =>
              have HNOT := Lib.hid (show ¬ okTL q gv (l.map Prod.fst) from fun h0 => absurd (HR.out.2 (h0.2.2.2 i p.1 HX.out).2.2.2.2.2) (by decide))
              go_wp2_with fail
              go_ret
              exact ZaX HNOT.out HB3.out
            | true =>
              have HOK := Lib.hid (HR.out.1 rfl)
              go_wp2_with fail
              go_loopg [9] i (fun g u wr => ∃ k : Nat, g = i - k ∧ u = .int .i64 k ∧ k ≤ i ∧ (Below w.heap.size w wr ∧ wr.heap[bx]? = some (dv6 p pa pc)) ∧ ∀ j y, j < k → (l.map Prod.fst)[j]? = some y → y.id ≠ p.1.id)
              case atStart => exact ⟨0, rfl, rfl, Nat.zero_le _, ⟨HB3.out, HK3.out⟩, fun j y hj => by omega⟩
              case round =>
               obtain ⟨k, hg', rfl, hk, ⟨hbk, hkk⟩, hn⟩ := hrel
               have HBK := Lib.hid hbk
               have HKK := Lib.hid hkk
               have HG' := Lib.hid hg'
               have HN := Lib.hid hn
               clear hg' hn hbk hkk
               by_cases hki : k < i
               ·obtain ⟨p', hp'⟩ : ∃ p', l[k]? = some p' := ⟨_, List.getElem?_eq_getElem (by omega)⟩
                have HY := Lib.hid (show (l.map Prod.fst)[k]? = some p'.1 by rw [List.getElem?_map, hp']; rfl)
                obtain ⟨g', off', cap', hv, _, d0, -⟩ := (HL.out.below HBK.out).at hp'
                cases hv
                have k0 : wr.cell? ⟨bx, 0, none⟩ = some (.int .i64 p.1.id) := Za HKK.out rfl
                have hki2 : (k : Int) < (i : Int) := by omega
                have hkl2 : (k : Int) < (l.length : Int) := by omega
                clear hp'
                by_cases he : p'.1.id = p.1.id
                ·have hb : (p'.1.id == p.1.id) = true := beq_iff_eq.2 he
                 have HNOT := Lib.hid (show ¬ okTL q gv (l.map Prod.fst) from fun h0 => ZgF hki HY.out he (h0.2.2.2 i p.1 HX.out).1)
                 clear he
                 go_upto_region 12 with fail
                 go_region
                 clear d0 k0
                 go_wp2_with fail
                 go_ret
                 exact ZaX HNOT.out (Zr HBK.out ⟨rfl, rfl, rfl, Nat.le_refl _, fun _ _ => rfl⟩)
                ·have hb : (p'.1.id == p.1.id) = false := beq_eq_false_iff_ne.2 he
                 have HE := Lib.hid he
                 clear he
                 go_upto_region 12 with fail
                 go_region
                 clear d0 k0
                 go_wp2_with fail
                 go_roundg (i - (k + 1))
                 case rel =>
                  have hlen := HLEN.out
                  refine ⟨k + 1, rfl, by rw [show wrap64 ((k : Int) + 1) = ((k + 1 : Nat) : Int) by unfold wrap64; omega], by omega, ⟨Zr HBK.out ⟨rfl, rfl, rfl, Nat.le_refl _, fun _ _ => rfl⟩, HKK.out⟩, fun j y hj hy => ?_⟩
                  rcases Nat.lt_or_ge j k with h | h
                  ·exact HN.out j y h hy
                  ·obtain rfl : j = k := by omega
                   obtain rfl : p'.1 = y := Option.some.inj (HY.out.symm.trans hy)
                   exact HE.out
                 case measure => have := HG'.out; omega
               ·have HOKI := Lib.hid (show okTIn q ((l.map Prod.fst).take i) p.1 from ⟨Zk8 (fun j y hj hy => HN.out j y (by omega) hy), HNB.out, HD.out.1, HD.out.2, HNE.out, HOK.out⟩)
                go_wp2_with fail
                go_roundg (l.length - (i + 1))
                case rel =>
                 have hlen := HLEN.out
                 refine ⟨i + 1, rfl, by rw [show wrap64 ((i : Int) + 1) = ((i + 1 : Nat) : Int) by unfold wrap64; omega], by omega, HBK.out, fun m z hm hz => ?_⟩
                 rcases Nat.lt_or_ge m i with h | h
                 ·exact HS.out m z h hz
                 ·obtain rfl : m = i := by omega
                  obtain rfl : p.1 = z := Option.some.inj (HX.out.symm.trans hz)
                  exact HOKI.out
                case measure => have := HG.out; omega
     ·have HOKL := Lib.hid (show okTL q gv (l.map Prod.fst) from ⟨HQ.out.1, HQ.out.2, fun h => HG0.out ⟨h.1, by simpa using h.2⟩, fun m x hx => HS.out m x (by have := (List.getElem?_eq_some_iff.1 hx).1; rw [List.length_map] at this; omega) hx⟩)
      go_wp2_with fail
      go_ret
      exact ⟨⟨true, rfl, fun _ => HOKL.out, fun _ => rfl⟩, HB.out⟩
 ·have HQ := Lib.hid hq
  have hq3 : q < 1 ∨ (¬ q < 1 ∧ 64 < q) := by omega
  clear hq
  go_enter Tryz.func54, Tryz.ntmps54
  rcases hq3 with hq1 | ⟨hq1, hq2⟩
  all_goals
   go_wp2_with fail
   go_ret
   exact ZaX (fun h => absurd ⟨h.1, h.2.1⟩ HQ.out) (Below.refl _ _)
end Go.Proofs.YtdbjihkgafhakaaGreatDoor
