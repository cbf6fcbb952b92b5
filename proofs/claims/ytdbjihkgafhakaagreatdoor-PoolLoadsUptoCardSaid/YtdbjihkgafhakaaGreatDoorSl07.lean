/-
 ref15 (flows): how the document's ring lies in memory; Find, with: the walks.
-/
import Derived.Test.YtdbjihkgafhakaaGreatDoorSl04
import Derived.Test.YtdbjihkgafhakaaGreatDoorSl06
import Derived.Deep.DeepCutAuto
namespace Go.Proofs.YtdbjihkgafhakaaGreatDoor
open Go.RowKit
def InG (G : Nat → Prop) (w : World) (v : Value) : Prop := ∀ k, v.ownBlock = some k → G k ∧ k < w.heap.size
theorem InG.grow {G : Nat → Prop} {w w' : World} {v : Value} (h : InG G w v) (hs : w.heap.size ≤ w'.heap.size) : InG G w' v := fun k hk => ⟨(h k hk).1, Nat.lt_of_lt_of_le (h k hk).2 hs⟩
theorem InG.not {G : Nat → Prop} {w : World} {v : Value} {b : Nat} (h : InG G w v) (hb : ¬ G b) : v.ownBlock ≠ some b := fun e => hb (h b e).1
theorem Zb0 {G : Nat → Prop} {w : World} {base size : Nat} {e : TypeId} {v : Value} {n : Nat} {xs : List Value} (h : w.ownsRow base e size v n xs) (hG : ∀ k, base ≤ k → G k) : InG G w v := fun k hk => ⟨hG k (Zl h k hk), Zll h k (ZeL.2 hk)⟩
variable {G : Nat → Prop}
structure RowsAt (w : World) (v : Value) (l : List (FRow × Value)) : Prop where
 rows : ∃ a cap, v = .slice a l.length cap ∧ l.length ≤ cap ∧ ∀ (j : Nat) u, (Zt l)[j]? = some u → ∃ g off, a = some ⟨g, off, none⟩ ∧ w.cell? ⟨g, off + j, none⟩ = some u
 its : ∀ p ∈ l, ItsAt w p.2 p.1.its
theorem ItsAt.fp {S : Nat → Prop} {w w' : World} {v : Value} {l : List It} (h : ItsAt w v l) (hF : Fp S w w') (hS : ∀ k, v.ownBlock = some k → ¬ S k) : ItsAt w' v l := by
 obtain ⟨a, cap, rfl, hc⟩ := h
 exact ⟨a, cap, rfl, fun j u hu => by obtain ⟨g, off, rfl, h0⟩ := hc j u hu; exact ⟨g, off, rfl, hF.cell h0 (hS g rfl)⟩⟩
theorem RowsAt.fp {S : Nat → Prop} {w w' : World} {v : Value} {l : List (FRow × Value)} (h : RowsAt w v l) (hF : Fp S w w') (hS : ∀ k, v.ownBlock = some k → ¬ S k) (hI : ∀ p ∈ l, ∀ k, p.2.ownBlock = some k → ¬ S k) : RowsAt w' v l := by
 obtain ⟨⟨a, cap, rfl, hle, hc⟩, hi⟩ := h
 exact ⟨⟨a, cap, rfl, hle, fun j u hu => by obtain ⟨g, off, rfl, h0⟩ := hc j u hu; exact ⟨g, off, rfl, hF.cell h0 (hS g rfl)⟩⟩, fun p hp => (hi p hp).fp hF (hI p hp)⟩
theorem RowsAt.fp' {S : Nat → Prop} {w w' : World} {v : Value} {l : List (FRow × Value)} (h : RowsAt w v l) (hF : Fp S w w') (hS : l ≠ [] → ∀ k, v.ownBlock = some k → ¬ S k) (hI : ∀ p ∈ l, ∀ k, p.2.ownBlock = some k → ¬ S k) : RowsAt w' v l := by
 by_cases hl : l = []
 ·subst hl
  obtain ⟨⟨a, cap, rfl, hle, _⟩, _⟩ := h
  exact ⟨⟨a, cap, rfl, hle, fun j u hu => by simp [Zt] at hu⟩, fun p hp => by cases hp⟩
 ·exact h.fp hF (hS hl) hI
theorem RowsAt.below {w w' : World} {v : Value} {l : List (FRow × Value)} (h : RowsAt w v l) (hb : Below w.heap.size w w') : RowsAt w' v l := h.fp (S := fun _ => False) (Fp.of_below hb) (fun _ _ h => h) (fun _ _ _ _ h => h)
theorem RowsAt.form {w : World} {v : Value} {l : List (FRow × Value)} (h : RowsAt w v l) : ∃ a cap, v = .slice a l.length cap ∧ l.length ≤ cap := by
 obtain ⟨⟨a, cap, hv, hle, _⟩, _⟩ := h
 exact ⟨a, cap, hv, hle⟩
theorem RowsAt.at {w : World} {v : Value} {l : List (FRow × Value)} (h : RowsAt w v l) {k : Nat} {p : FRow × Value} (hp : l[k]? = some p) : ∃ g off cap, v = .slice (some ⟨g, off, none⟩) l.length cap ∧ l.length ≤ cap ∧ w.cell? ⟨g, off + k * 4, none⟩ = some (.int .i64 p.1.id) ∧ w.cell? ⟨g, off + k * 4 + 1, none⟩ = some (.int .i64 p.1.wt) ∧
 w.cell? ⟨g, off + k * 4 + 2, none⟩ = some (.int .i64 p.1.df) ∧ w.cell? ⟨g, off + k * 4 + 3, none⟩ = some p.2 := by
 obtain ⟨⟨a, cap, rfl, hle, hc⟩, _⟩ := h
 have key : ∀ i u, (encRV p)[i]? = some u → (Zt l)[k * 4 + i]? = some u := fun i u hu => by
  have hi : i < 4 := (List.getElem?_eq_some_iff.1 hu).1
  unfold Zt
  rw [Zbf encRV 4 Zct i hp hi]
  exact hu
 obtain ⟨g, off, rfl, h0⟩ := hc _ _ (key 0 _ rfl)
 have get : ∀ i u, (encRV p)[i]? = some u → w.cell? ⟨g, off + k * 4 + i, none⟩ = some u := fun i u hu => by
  obtain ⟨g', off', he, h1⟩ := hc _ _ (key i u hu)
  cases he
  rw [Nat.add_assoc]
  exact h1
 exact ⟨g, off, cap, rfl, hle, get 0 _ rfl, get 1 _ rfl, get 2 _ rfl, get 3 _ rfl⟩
theorem ZbB {T : TypeId} {w : World} {base : Nat} {v : Value} {l : List (FRow × Value)} (h : w.ownsRow base T 4 v l.length (Zt l)) (hi : ∀ p ∈ l, ItsAt w p.2 p.1.its) : RowsAt w v l := by
 obtain ⟨a, cap, rfl, hle, _, _, hc⟩ := ZC h
 exact ⟨⟨a, cap, rfl, hle, fun j u hu => by obtain ⟨g, ha, _, _, h0, _⟩ := hc j u hu; exact ⟨g, 0, ha, by rw [Nat.zero_add]; exact h0⟩⟩, hi⟩
structure RefAt (G : Nat → Prop) (w : World) (b : Nat) (q : Int) (gv : Bool) (v : Value) (l : List (FRow × Value)) : Prop where
 head : w.heap[b]? = some (.cells #[.int .i64 q, v, .bool gv] 104 (0, 0))
 rows : RowsAt w v l
 vg : l ≠ [] → InG G w v
 ig : ∀ p ∈ l, InG G w p.2
 nb : ¬ G b
 up : ∀ k, w.heap.size ≤ k → G k
 few : l.length ≤ 1000000
 fews : ∀ p ∈ l, p.1.its.length ≤ 1000000
theorem RefAt.below {w w' : World} {b : Nat} {q : Int} {gv : Bool} {v : Value} {l : List (FRow × Value)} (h : RefAt G w b q gv v l) (hb : Below w.heap.size w w') : RefAt G w' b q gv v l :=
 ⟨(hb.block b (Zb h.head)).trans h.head, h.rows.below hb, fun hl => (h.vg hl).grow hb.size, fun p hp => (h.ig p hp).grow hb.size, h.nb, fun k hk => h.up k (Nat.le_trans hb.size hk), h.few, h.fews⟩
theorem RefAt.nv {w : World} {b : Nat} {q : Int} {gv : Bool} {v : Value} {l : List (FRow × Value)} (h : RefAt G w b q gv v l) (hl : l ≠ []) : v.ownBlock ≠ some b := (h.vg hl).not h.nb
theorem RefAt.ni {w : World} {b : Nat} {q : Int} {gv : Bool} {v : Value} {l : List (FRow × Value)} (h : RefAt G w b q gv v l) : ∀ p ∈ l, p.2.ownBlock ≠ some b := fun p hp => (h.ig p hp).not h.nb
theorem RefAt.fp {S : Nat → Prop} {w w' : World} {b : Nat} {q : Int} {gv : Bool} {v : Value} {l : List (FRow × Value)} (h : RefAt G w b q gv v l) (hF : Fp S w w') (h0 : ¬ S b) (hS : ∀ k, v.ownBlock = some k → ¬ S k) (hI : ∀ p ∈ l, ∀ k, p.2.ownBlock = some k → ¬ S k) : RefAt G w' b q gv v l :=
 ⟨hF.heap h.head h0, h.rows.fp hF hS hI, fun hl => (h.vg hl).grow hF.size, fun p hp => (h.ig p hp).grow hF.size, h.nb, fun k hk => h.up k (Nat.le_trans hF.size hk), h.few, h.fews⟩
def Za1 (id : Int) (rows : List FRow) : Int := match findF id rows with
 | some k => k
 | none => -1
theorem ZfD {id : Int} : ∀ {l : List FRow} {k : Nat} {x : FRow}, l[k]? = some x → x.id = id → (∀ j y, j < k → l[j]? = some y → y.id ≠ id) → findF id l = some k
 | [], _, _, h, _, _ => by simp at h
 | y :: r, 0, x, h, hp, _ => by
   simp at h
   subst h
   simp [findF, List.findIdx?_cons, hp]
 | y :: r, k + 1, x, h, hp, hn => by
   have h0 := hn 0 y (by omega) rfl
   have ih := ZfD (l := r) (k := k) (by simpa using h) hp (fun j z hj hz => hn (j + 1) z (by omega) (by simpa using hz))
   unfold findF at ih ⊢
   simp [List.findIdx?_cons, h0]
   exact ih
theorem Zkk {id : Int} {l : List FRow} (hn : ∀ j y, j < l.length → l[j]? = some y → y.id ≠ id) : findF id l = none := by
 unfold findF
 rw [List.findIdx?_eq_none_iff]
 intro x hx
 obtain ⟨j, hj, rfl⟩ := List.getElem_of_mem hx
 have := hn j _ hj (List.getElem?_eq_getElem hj)
 simpa using this
set_option maxRecDepth 100000 in
set_option maxHeartbeats 1000000 in
theorem ZbO (id q : Int) (gv : Bool) (v : Value) (l : List (FRow × Value)) (w : World) (h : RowsAt w v l) (hf : l.length ≤ 1000000) : Calls Tryz.prog 110 #[.agg #[.int .i64 q, v, .bool gv], .int .i64 id] w fun e w' => e = .returned (.int .i64 (Za1 id (l.map Prod.fst))) ∧ Below w.heap.size w w' := by
 have HI := Lib.hid (h.below (box_below (o := .cells #[.int .i64 q, v, .bool gv] 104)))
 obtain ⟨a, cap, rfl, -⟩ := h.form
 clear h
 go_enter Tryz.func110, Tryz.ntmps110
 go_wp2_with fail
 obtain ⟨w1, hw1⟩ : ∃ w1 : World, w1 = w.alloc (.cells #[.int .i64 q, .slice a l.length cap, .bool gv] 104) := ⟨_, rfl⟩
 rw [← hw1] at HI ⊢
 have b1 : w1.cell? ⟨w.heap.size, 1, none⟩ = some (.slice a l.length cap) := by rw [hw1]; exact Zm rfl
 have HB := Lib.hid (show Below w.heap.size w w1 by rw [hw1]; exact box_below)
 clear hw1
 go_loopg [5] l.length (fun g i wr => ∃ k : Nat, g = l.length - k ∧ i = .int .i64 k ∧ k ≤ l.length ∧ (∀ j y, j < k → (l.map Prod.fst)[j]? = some y → y.id ≠ id) ∧ wr = w1)
 case atStart => exact ⟨0, rfl, rfl, Nat.zero_le _, (fun j y hj => by omega), rfl⟩
 case round =>
  obtain ⟨k, hg, rfl, hk, hn, rfl⟩ := hrel
  have HG := Lib.hid hg
  have HN := Lib.hid hn
  clear hg hn
  by_cases hlt : k < l.length
  ·obtain ⟨p, hp⟩ : ∃ p, l[k]? = some p := ⟨_, List.getElem?_eq_getElem hlt⟩
   obtain ⟨g, off, cap', hv, _, c0, _⟩ := HI.out.at hp
   cases hv
   have HX := Lib.hid (show (l.map Prod.fst)[k]? = some p.1 by rw [List.getElem?_map, hp]; rfl)
   have hkl : (k : Int) < (l.length : Int) := by omega
   clear hp
   by_cases hq : p.1.id = id
   ·have HP := Lib.hid (show Za1 id (l.map Prod.fst) = k by unfold Za1; rw [ZfD HX.out hq HN.out])
    have hpb : (p.1.id == id) = true := beq_iff_eq.2 hq
    clear hq
    go_wp2_with fail
    go_ret
    exact ⟨ZM HP.out.symm, HB.out⟩
   ·have HP := Lib.hid hq
    have hpb : (p.1.id == id) = false := beq_eq_false_iff_ne.2 hq
    clear hq
    go_wp2_with fail
    go_roundg (l.length - (k + 1))
    case rel =>
     refine ⟨k + 1, rfl, by go_num, by omega, fun j y hj hy => ?_, rfl⟩
     rcases Nat.lt_or_ge j k with h | h
     ·exact HN.out j y h hy
     ·obtain rfl : j = k := by omega
      obtain rfl : p.1 = y := Option.some.inj (HX.out.symm.trans hy)
      exact HP.out
    case measure => have := HG.out; omega
  ·have HP := Lib.hid (show Za1 id (l.map Prod.fst) = -1 by unfold Za1; rw [Zkk (fun j y hj hy => HN.out j y (by rw [List.length_map] at hj; omega) hy)])
   go_wp2_with fail
   go_ret
   exact ⟨ZM HP.out.symm, HB.out⟩
end Go.Proofs.YtdbjihkgafhakaaGreatDoor
/-
 ref15 (flows): with: the walk.
-/
namespace Go.Proofs.YtdbjihkgafhakaaGreatDoor
open Go.RowKit
variable {G : Nat → Prop}
def withV (k : Nat) (p : FRow × Value) (gv : Bool) (l : List (FRow × Value)) : Bool × List (FRow × Value) := if p.1.its = [] then (if k = 0 then false else gv, l.eraseIdx k) else (gv, l.set k p)
theorem Zkl (k : Nat) (p : FRow × Value) (gv : Bool) (l : List (FRow × Value)) : (withV k p gv l).1 = (withR k p.1 gv (l.map Prod.fst)).1 ∧ (withV k p gv l).2.map Prod.fst = (withR k p.1 gv (l.map Prod.fst)).2 := by
 unfold withV withR
 split
 ·exact ⟨rfl, eraseIdx_map' _ _ _⟩
 ·exact ⟨rfl, Zbi _ _ _ _⟩
def ZK (k : Nat) (p : FRow × Value) (l : List (FRow × Value)) (i : Nat) : List (FRow × Value) := if i ≤ k then l.take i else if p.1.its = [] then (l.take i).eraseIdx k else (l.take i).set k p
theorem Zc6 {α : Type} : ∀ (l : List α) (y : α) (k : Nat), k < l.length → (l ++ [y]).eraseIdx k = l.eraseIdx k ++ [y]
 | [], _, _, h => by simp at h
 | _ :: _, _, 0, _ => rfl
 | x :: l, y, k + 1, h => by
   simp at h
   simp [Zc6 l y k h]
theorem ZeP {α : Type} : ∀ (l : List α) (y x : α) (k : Nat), k < l.length → (l ++ [y]).set k x = l.set k x ++ [y]
 | [], _, _, _, h => by simp at h
 | _ :: _, _, _, 0, _ => rfl
 | z :: l, y, x, k + 1, h => by
   simp at h
   simp [ZeP l y x k h]
theorem Zcm {α : Type} : ∀ (l : List α) (y : α), (l ++ [y]).eraseIdx l.length = l
 | [], _ => rfl
 | x :: l, y => by simp [Zcm l y]
theorem ZdI {α : Type} : ∀ (l : List α) (y x : α), (l ++ [y]).set l.length x = l ++ [x]
 | [], _, _ => rfl
 | z :: l, y, x => by simp [ZdI l y x]
theorem Zff {k i : Nat} {p y : FRow × Value} {l : List (FRow × Value)} (hy : l[i]? = some y) (hik : i ≠ k) : ZK k p l (i + 1) = ZK k p l i ++ [y] := by
 have hi : i < l.length := (List.getElem?_eq_some_iff.1 hy).1
 have ht : l.take (i + 1) = l.take i ++ [y] := by rw [List.take_succ_eq_append_getElem hi, (List.getElem?_eq_some_iff.1 hy).2]
 unfold ZK
 by_cases h : i < k
 ·rw [if_pos (show i + 1 ≤ k by omega), if_pos (show i ≤ k by omega), ht]
 ·have hl : k < (l.take i).length := by rw [List.length_take]; omega
  rw [if_neg (show ¬ i + 1 ≤ k by omega), if_neg (show ¬ i ≤ k by omega), ht]
  split
  ·exact Zc6 _ _ _ hl
  ·exact ZeP _ _ _ _ hl
theorem Zf1 {k : Nat} {p : FRow × Value} {l : List (FRow × Value)} (hk : k < l.length) : ZK k p l (k + 1) = ZK k p l k ++ (if p.1.its = [] then [] else [p]) := by
 have ht : l.take (k + 1) = l.take k ++ [l[k]] := List.take_succ_eq_append_getElem hk
 have hl : (l.take k).length = k := by rw [List.length_take]; omega
 unfold ZK
 rw [if_neg (by omega), if_pos (Nat.le_refl _), ht]
 split
 ·have h := Zcm (l.take k) l[k]
  rw [hl] at h
  rw [h, List.append_nil]
 ·have h := ZdI (l.take k) l[k] p
  rw [hl] at h
  exact h
theorem ZgQ {k : Nat} {p : FRow × Value} {gv : Bool} {l : List (FRow × Value)} (hk : k < l.length) : ZK k p l l.length = (withV k p gv l).2 := by
 unfold ZK withV
 rw [if_neg (by omega), List.take_of_length_le (Nat.le_refl _)]
 split <;> rfl
theorem ZgR {k i : Nat} {p : FRow × Value} {l : List (FRow × Value)} : (ZK k p l i).length ≤ i := by
 unfold ZK
 split
 ·rw [List.length_take]; omega
 ·split
  ·exact Nat.le_trans (List.length_eraseIdx_le _ _) (by rw [List.length_take]; omega)
  ·rw [List.length_set, List.length_take]; omega
theorem ZbW {k : Nat} {p y : FRow × Value} {gv : Bool} {l : List (FRow × Value)} (h : y ∈ (withV k p gv l).2) : y ∈ l ∨ y = p := by
 unfold withV at h
 split at h
 ·exact .inl (List.mem_of_mem_eraseIdx h)
 ·exact ZaA h
theorem ZhY {k : Nat} {p : FRow × Value} {gv : Bool} {l : List (FRow × Value)} : (withV k p gv l).2.length ≤ l.length := by
 unfold withV
 split
 ·exact List.length_eraseIdx_le _ _
 ·rw [List.length_set]; exact Nat.le_refl _
theorem Za8 : (Tryz.prog.info? 157).map (fun i => (i.zero, i.size, i.bytes)) = some (some (.agg #[.int .i64 0, .int .i64 0, .int .i64 0, .slice none 0 0]), 4, 48) := by kernel_rfl
def ZhZ (G : Nat → Prop) (b : Nat) (q : Int) (s : Bool × List (FRow × Value)) (w : World) (e : Ending) (w' : World) : Prop := e = .returned (.tuple #[]) ∧ Fp (fun j => j = b) w w' ∧ ∃ v', RefAt G w' b q s.1 v' s.2
theorem ZdJ {b k base : Nat} {q : Int} {gv : Bool} {v vx vo : Value} {l : List (FRow × Value)} {x : FRow} {w wr w3 : World} (hR : RefAt G w b q gv v l) (hB : Below w.heap.size w wr) (hx : ItsAt w vx x.its) (hxb : InG G w vx) (hxf : x.its.length ≤ 1000000)
 (ho : wr.ownsRow base 157 4 vo (withV k (x, vx) gv l).2.length (Zt (withV k (x, vx) gv l).2)) (hbase : w.heap.size ≤ base) (hF : Fp (fun j => j = b) wr w3) (hh : w3.heap[b]? = some (.cells #[.int .i64 q, vo, .bool (withV k (x, vx) gv l).1] 104 (0, 0))) :
 ZhZ G b q (withV k (x, vx) gv l) w (.returned (.tuple #[])) w3 := by
 have hbw := Zb hR.head
 have hsz := Nat.le_trans hB.size hF.size
 have hvg : InG G w3 vo := (Zb0 ho (fun k hk => hR.up k (Nat.le_trans hbase hk))).grow hF.size
 have hig : ∀ p ∈ (withV k (x, vx) gv l).2, InG G w3 p.2 := fun p hp => by
  rcases ZbW hp with h | rfl
  ·exact (hR.ig p h).grow hsz
  ·exact hxb.grow hsz
 have hvo : vo.ownBlock ≠ some b := hvg.not hR.nb
 have hib : ∀ p ∈ (withV k (x, vx) gv l).2, p.2.ownBlock ≠ some b := fun p hp => (hig p hp).not hR.nb
 refine ⟨rfl, (Fp.of_below hB).trans hF (fun _ _ h => h), vo, ⟨hh, ?_, fun _ => hvg, hig, hR.nb, fun k hk => hR.up k (Nat.le_trans hsz hk), Nat.le_trans ZhY hR.few, fun p hp => ?_⟩⟩
 ·refine (ZbB ho (fun p hp => ?_)).fp hF (fun j hj e => hvo (e ▸ hj)) (fun p hp j hj e => hib p hp (e ▸ hj))
  rcases ZbW hp with h | rfl
  ·exact (hR.rows.its p h).below hB
  ·exact hx.below hB
 ·rcases ZbW hp with h | rfl
  ·exact hR.fews p h
  ·exact hxf
set_option maxRecDepth 100000 in
set_option maxHeartbeats 4000000 in
theorem Zjb (b : Nat) (q : Int) (gv : Bool) (v : Value) (l : List (FRow × Value)) (k : Nat) (x : FRow) (vx : Value) (w : World) (h : RefAt G w b q gv v l) (hk : k < l.length) (hx : ItsAt w vx x.its) (hxb : InG G w vx) (hxf : x.its.length ≤ 1000000) :
 Calls Tryz.prog 125 #[.pointer (some ⟨b, 0, none⟩), .int .i64 k, .agg #[.int .i64 x.id, .int .i64 x.wt, .int .i64 x.df, vx]] w (ZhZ G b q (withV k (x, vx) gv l) w) := by
 have HX := Lib.hid hx
 have HXB := Lib.hid hxb
 have HXF := Lib.hid hxf
 obtain ⟨xa, xc, rfl⟩ := ZN hx
 have HR := Lib.hid (h.below (box_below (o := .cells #[.int .i64 x.id, .int .i64 x.wt, .int .i64 x.df, .slice xa x.its.length xc] 157)))
 have HR0 := Lib.hid h
 have hbw := Zb h.head
 obtain ⟨a, cap, rfl, -⟩ := h.rows.form
 have HF := Lib.hid h.few
 have HK := Lib.hid hk
 clear h hx hxb hxf hk
 go_enter Tryz.func125, Tryz.ntmps125
 go_wp2_with fail
 obtain ⟨w1, hw1⟩ : ∃ w1 : World, w1 = w.alloc (.cells #[.int .i64 x.id, .int .i64 x.wt, .int .i64 x.df, .slice xa x.its.length xc] 157) := ⟨_, rfl⟩
 have hz1 : w1.heap.size = w.heap.size + 1 := by rw [hw1]; simp
 rw [← hw1] at HR ⊢
 have HXC := Lib.hid (show w1.heap[w.heap.size]? = some (.cells #[.int .i64 x.id, .int .i64 x.wt, .int .i64 x.df, .slice xa x.its.length xc] 157 (0, 0)) by rw [hw1]; exact Zf)
 have HB1 := Lib.hid (show Below w.heap.size w w1 by rw [hw1]; exact box_below)
 have HST := Lib.hid (show (w1.alloc (.cells #[] 157)).ownsRow w1.heap.size 157 4 (.slice (some ⟨w1.heap.size, 0, none⟩) 0 0) 0 [] from Zal (Nat.le_refl _))
 have HZ1 := Lib.hid hz1
 rw [← hz1]
 clear hw1 hz1
 go_loopg [7, 6] l.length (fun g i ov wr => ∃ m : Nat, g = l.length - m ∧ i = .int .i64 m ∧ m ≤ l.length ∧ wr.ownsRow w1.heap.size 157 4 ov (ZK k (x, .slice xa x.its.length xc) l m).length (Zt (ZK k (x, .slice xa x.its.length xc) l m)) ∧ Below w1.heap.size w1 wr)
 case atStart => exact ⟨0, rfl, rfl, Nat.zero_le _, by unfold ZK; rw [if_pos (Nat.zero_le _)]; exact HST.out, box_below⟩
 case round =>
  obtain ⟨m, hg, rfl, hm, ho, hb⟩ := hrel
  have HG := Lib.hid hg
  have HO := Lib.hid ho
  have HB := Lib.hid hb
  clear hg ho hb
  have hh := (HB.out.block b (Zb HR.out.head)).trans HR.out.head
  have b1 : wr.cell? ⟨b, 1, none⟩ = some (.slice a l.length cap) := Za hh rfl
  have HH := Lib.hid hh
  have hxc := (HB.out.block w.heap.size (Zb HXC.out)).trans HXC.out
  have HXC2 := Lib.hid hxc
  have hlen := ZgR (k := k) (i := m) (p := (x, .slice xa x.its.length xc)) (l := l)
  have hf := HF.out
  have hc1 : w1.heap.size ≤ wr.heap.size := HB.out.size
  have hc2 : (ZK k (x, .slice xa x.its.length xc) l m).length < 140737488355328 := by omega
  have hc3 : ((ZK k (x, .slice xa x.its.length xc) l m).length + 1) * 48 ≤ 140737488355328 := by omega
  clear hh hxc hlen
  by_cases hlt : m < l.length
  ·have hml : (m : Int) < (l.length : Int) := by omega
   obtain ⟨p, hp⟩ : ∃ p, l[m]? = some p := ⟨_, List.getElem?_eq_getElem hlt⟩
   by_cases hmk : m = k
   ·have hne : ((m : Int) != (k : Int)) = false := by simp [hmk]
    have HBS := Lib.hid (show ZK k (x, .slice xa x.its.length xc) l (m + 1) = ZK k (x, .slice xa x.its.length xc) l m ++ (if x.its = [] then [] else [(x, .slice xa x.its.length xc)]) by rw [hmk]; exact Zf1 HK.out)
    have x0 : wr.cell? ⟨w.heap.size, 0, none⟩ = some (.int .i64 x.id) := Za HXC2.out rfl
    have x1 : wr.cell? ⟨w.heap.size, 1, none⟩ = some (.int .i64 x.wt) := Za HXC2.out rfl
    have x2 : wr.cell? ⟨w.heap.size, 2, none⟩ = some (.int .i64 x.df) := Za HXC2.out rfl
    have x3 : wr.cell? ⟨w.heap.size, 3, none⟩ = some (.slice xa x.its.length xc) := Za HXC2.out rfl
    obtain ⟨D, hD⟩ : ∃ D, D = ZK k (x, .slice xa x.its.length xc) l m := ⟨_, rfl⟩
    rw [← hD] at hc2 hc3 HO HBS
    clear hp hmk hD
    by_cases hxe : x.its = []
    ·have hgt : ¬ (0 : Int) < (x.its.length : Int) := by rw [hxe]; simp
     have HBS2 := Lib.hid (show ZK k (x, .slice xa x.its.length xc) l (m + 1) = D by rw [HBS.out, if_pos hxe, List.append_nil])
     clear hxe
     go_wp2_with fail
     go_roundg (l.length - (m + 1))
     case rel => exact ⟨m + 1, rfl, by go_num, by omega, by rw [HBS2.out]; exact HO.out, HB.out⟩
     case measure => have := HG.out; omega
    ·have hgt : (0 : Int) < (x.its.length : Int) := by have := List.length_pos_iff.2 hxe; omega
     have HBS2 := Lib.hid (show ZK k (x, .slice xa x.its.length xc) l (m + 1) = D ++ [(x, .slice xa x.its.length xc)] by rw [HBS.out, if_neg hxe])
     clear hxe
     go_wp2_with (at_builtin; refine Zv (us := #[.int .i64 x.id, .int .i64 x.wt, .int .i64 x.df, .slice xa x.its.length xc]) rfl _ _ 102 rfl w1.heap.size _ 4 48 Tryz.underlying102 Za8 rfl (by decide) u6 D.length (Zt D) rfl HO.out rfl rfl (by simp [Value.oneCell']) ?c1 ?c2 ?c3 ?_; (case c1 => exact hc1); (case c2 => exact hc2); (case c3 => exact hc3); intro gg gcap w3 ho3 hg3 hat3)
     have HO3 := Lib.hid ho3
     have HB3 := Lib.hid (HB.out.trans ⟨hg3.os, hg3.tape, hg3.output, hg3.size, fun j hj => hg3.block j (by omega) (fun e => by have := Zl HO.out j e.symm; omega)⟩ : Below w1.heap.size w1 w3)
     clear ho3 hg3 hat3
     go_wp2_with fail
     go_roundg (l.length - (m + 1))
     case rel => exact ⟨m + 1, rfl, by go_num, by omega, by rw [HBS2.out, List.length_append, ZaD]; exact HO3.out, HB3.out⟩
     case measure => have := HG.out; omega
   ·have hne : ((m : Int) != (k : Int)) = true := by simp; omega
    have HBS := Lib.hid (Zff (p := (x, .slice xa x.its.length xc)) hp hmk)
    obtain ⟨g, off, cap', hv, _, c0, c1, c2, c3⟩ := (HR.out.rows.below (HB.out.mono (Nat.le_refl _))).at hp
    cases hv
    obtain ⟨pa, pc, hpv⟩ := ZN (HR.out.rows.its p (List.mem_of_getElem? hp))
    rw [hpv] at c3
    have HPV := Lib.hid hpv
    obtain ⟨D, hD⟩ : ∃ D, D = ZK k (x, .slice xa x.its.length xc) l m := ⟨_, rfl⟩
    rw [← hD] at hc2 hc3 HO HBS
    clear hp hmk hD hpv
    go_wp2_with (at_builtin; refine Zv (us := #[.int .i64 p.1.id, .int .i64 p.1.wt, .int .i64 p.1.df, .slice pa p.1.its.length pc]) rfl _ _ 102 rfl w1.heap.size _ 4 48 Tryz.underlying102 Za8 rfl (by decide) u6 D.length (Zt D) rfl HO.out rfl rfl (by simp [Value.oneCell']) ?c1 ?c2 ?c3 ?_; (case c1 => exact hc1); (case c2 => exact hc2); (case c3 => exact hc3); intro gg gcap w3 ho3 hg3 hat3)
    have HO3 := Lib.hid ho3
    have HB3 := Lib.hid (HB.out.trans ⟨hg3.os, hg3.tape, hg3.output, hg3.size, fun j hj => hg3.block j (by omega) (fun e => by have := Zl HO.out j e.symm; omega)⟩ : Below w1.heap.size w1 w3)
    clear ho3 hg3 hat3
    go_wp2_with fail
    go_roundg (l.length - (m + 1))
    case rel => exact ⟨m + 1, rfl, by go_num, by omega, by rw [HBS.out, List.length_append, ZaD, show encRV p = [.int .i64 p.1.id, .int .i64 p.1.wt, .int .i64 p.1.df, .slice pa p.1.its.length pc] by unfold encRV; rw [HPV.out]]; exact HO3.out, HB3.out⟩
    case measure => have := HG.out; omega
  ·obtain rfl : m = l.length := by omega
   obtain ⟨ua, uc, hu, hul, -⟩ := ZC HO.out
   have HW := Lib.hid (show wr.ownsRow w1.heap.size 157 4 u6 (withV k (x, .slice xa x.its.length xc) gv l).2.length (Zt (withV k (x, .slice xa x.its.length xc) gv l).2) by rw [← ZgQ HK.out]; exact HO.out)
   obtain ⟨n, hn⟩ : ∃ n, n = (ZK k (x, .slice xa x.its.length xc) l l.length).length := ⟨_, rfl⟩
   rw [← hn] at hu
   subst hu
   have HBB := Lib.hid (HB1.out.trans (HB.out.mono HB1.out.size) : Below w.heap.size w wr)
   have x3 : wr.cell? ⟨w.heap.size, 3, none⟩ = some (.slice xa x.its.length xc) := Za HXC2.out rfl
   have b2 : wr.cell? ⟨b, 2, none⟩ = some (.bool gv) := Za HH.out rfl
   have f1 : wr.frozen? ⟨b, 1, none⟩ = false := Zd HH.out
   have f2 : wr.frozen? ⟨b, 2, none⟩ = false := Zd HH.out
   clear hn hul hc1 hc2 hc3
   by_cases hc : k = 0 ∧ x.its = []
   ·have hk0 : ((k : Int) == 0) = true := by simp [hc.1]
    have hx0 : ((x.its.length : Int) == 0) = true := by simp [hc.2]
    have HG1 := Lib.hid (show (withV k (x, .slice xa x.its.length xc) gv l).1 = false by unfold withV; rw [if_pos hc.2, if_pos hc.1])
    clear hc
    go_upto_region 11 with fail
    obtain ⟨w2, hw2⟩ : ∃ w2 : World, w2 = wr.setCell ⟨b, 2, none⟩ (.bool false) := ⟨_, rfl⟩
    have hh2 : w2.heap[b]? = some (.cells #[.int .i64 q, .slice a l.length cap, .bool false] 104 (0, 0)) := by rw [hw2]; exact Ze HH.out
    have HF2 := Lib.hid (show Fp (fun j => j = b) wr w2 by rw [hw2]; exact (Fp.refl (fun j => j = b) wr).setCell (p := ⟨b, 2, none⟩) (fun _ => rfl) _)
    rw [← hw2]
    clear hw2 b1 b2 f1 f2 x3
    have HH2 := Lib.hid hh2
    have b1 : w2.cell? ⟨b, 1, none⟩ = some (.slice a l.length cap) := Za hh2 rfl
    have f1 : w2.frozen? ⟨b, 1, none⟩ = false := Zd hh2
    clear hh2
    go_wp2_with fail
    go_end0
    exact ZdJ HR0.out HBB.out HX.out HXB.out HXF.out HW.out (by have := HZ1.out; omega) (HF2.out.setCell (p := ⟨b, 1, none⟩) (fun _ => rfl) _) (by rw [HG1.out]; exact Ze HH2.out)
   ·have HG1 := Lib.hid (show (withV k (x, .slice xa x.its.length xc) gv l).1 = gv by
     unfold withV
     by_cases h1 : x.its = []
     ·rw [if_pos h1]
      exact if_neg (fun e => hc ⟨e, h1⟩)
     ·rw [if_neg h1])
    rcases hk0 : ((k : Int) == 0) with _ | _
    ·clear hc
     go_wp2_with fail
     go_end0
     exact ZdJ HR0.out HBB.out HX.out HXB.out HXF.out HW.out (by have := HZ1.out; omega) ((Fp.refl (fun j => j = b) wr).setCell (p := ⟨b, 1, none⟩) (fun _ => rfl) _) (by rw [HG1.out]; exact Ze HH.out)
    ·have hx0 : ((x.its.length : Int) == 0) = false := by
      rw [beq_eq_false_iff_ne]
      intro e
      exact hc ⟨by simpa using hk0, List.length_eq_zero_iff.1 (by omega)⟩
     clear hc
     go_wp2_with fail
     go_end0
     exact ZdJ HR0.out HBB.out HX.out HXB.out HXF.out HW.out (by have := HZ1.out; omega) ((Fp.refl (fun j => j = b) wr).setCell (p := ⟨b, 1, none⟩) (fun _ => rfl) _) (by rw [HG1.out]; exact Ze HH.out)
end Go.Proofs.YtdbjihkgafhakaaGreatDoor
/-
 ref15 (flows): Pick: the walk.
-/
namespace Go.Proofs.YtdbjihkgafhakaaGreatDoor
open Go.RowKit
variable {G : Nat → Prop}
def ndOf (r : FRow) : Nd := ⟨r.id, r.wt, r.df, 0, undef⟩
theorem ZbP (q : Int) (gv : Bool) (r : FRow) : ndOf (ZF q gv r) = ZD q gv (ndOf r) := by cases gv <;> rfl
structure RowsOk (gv : Bool) (rows : List FRow) : Prop where
 nds : NdsOk gv (rows.map ndOf)
 full : ∀ r ∈ rows, ∃ y l, r.its = y :: l ∧ 1 ≤ y.cost ∧ y.cost ≤ 64
theorem RingAt.rowsOk {pre : List Int} {ρ : Roles} {w : World} {f : Nat} {q : Int} {gv : Bool} {rows : List FRow} (h : RingAt pre ρ w f q gv rows) : RowsOk gv rows := by
 obtain ⟨sp, v, ns, qb, its, h, rfl⟩ := h
 refine ⟨?_, fun r hr => ?_⟩
 ·have hg := h.good
  cases ns with
  | nil => trivial
  | cons n l =>
    refine ⟨hg.1, fun m hm => ?_⟩
    obtain ⟨r, hr, rfl⟩ := List.mem_map.1 hm
    obtain ⟨n', hn', rfl⟩ := List.mem_map.1 hr
    exact hg.2 n' hn'
 ·obtain ⟨n, hn, rfl⟩ := List.mem_map.1 hr
  have h1 := h.full n hn
  have h2 := (h.que n hn).good
  cases hl : its n.id with
  | nil => exact absurd hl h1
  | cons y l =>
    have h3 := h2.ok y (by rw [hl]; exact List.mem_cons_self)
    exact ⟨y, l, hl, h3.2.2⟩
theorem RowsOk.rotate {q : Int} {gv : Bool} {x : FRow} {r : List FRow} (hq1 : 1 ≤ q) (hq : q ≤ 64) (h : RowsOk gv (x :: r)) (hn : ¬ headC x.its ≤ (ZF q gv x).df) : RowsOk false (r ++ [ZF q gv x]) ∧ Zac false ((r ++ [ZF q gv x]).map ndOf) < Zac gv ((x :: r).map ndOf) := by
 obtain ⟨y, l, hy, c1, c2⟩ := h.full x List.mem_cons_self
 have hh : headC x.its = y.cost := by rw [hy]; rfl
 have hn' : ¬ y.cost ≤ (ZD q gv (ndOf x)).df := by rw [← ZbP, ← hh]; exact hn
 have e : (r ++ [ZF q gv x]).map ndOf = r.map ndOf ++ [ZD q gv (ndOf x)] := by rw [List.map_append, ← ZbP]; rfl
 refine ⟨⟨by rw [e]; exact Zeh hq1 hq c2 h.nds hn', fun z hz => ?_⟩, by rw [e]; exact Zcl hq1 hq c2 h.nds hn'⟩
 rcases List.mem_append.1 hz with hz | hz
 ·exact h.full z (List.mem_cons_of_mem _ hz)
 ·rw [List.mem_singleton] at hz
  subst hz
  rw [(Zas q gv x).1]
  exact h.full x List.mem_cons_self
theorem Zkm (g off n cap : Nat) (W : World) : (Instr.sliceAt 102 (.slice (some ⟨g, off, none⟩) (n + 1) cap) (some (.int .i64 1)) none none).run Tryz.prog W = .ok (.slice (if cap = 1 then some ⟨g, off, none⟩ else some ⟨g, off + 4, none⟩) n (cap - 1)) W := by
 have hu := Tryz.underlying102
 have hi := Za8
 have h1 : ¬ ((n : Int) + 1 < 1) := by omega
 simp [Instr.sliceAt, go_sem, h1]
theorem ZmV {w : World} {v : Value} {p : FRow × Value} {r : List (FRow × Value)} (h : RowsAt w v (p :: r)) : ∃ tv, (∀ W, (Instr.sliceAt 102 v (some (.int .i64 1)) none none).run Tryz.prog W = .ok tv W) ∧ SrcAt 4 w tv r.length (Zt r) := by
 obtain ⟨⟨a, cap, rfl, hle, hc⟩, _⟩ := h
 obtain ⟨g, off, rfl, _⟩ := hc 0 _ rfl
 rw [List.length_cons] at hle
 refine ⟨_, fun W => Zkm g off r.length cap W, ?_⟩
 have hat : ∀ (j : Nat) u, (Zt r)[j]? = some u → w.cell? ⟨g, off + 4 + j, none⟩ = some u := fun j u hu => by
  obtain ⟨g', off', he, h0⟩ := hc (4 + j) u (by
   have e : Zt (p :: r) = encRV p ++ Zt r := rfl
   rw [e, List.getElem?_append_right (by rw [Zct]; omega), Zct, show 4 + j - 4 = j by omega]
   exact hu)
  cases he
  rw [Nat.add_assoc]
  exact h0
 by_cases h1 : cap = 1
 ·have hr : r = [] := List.length_eq_zero_iff.1 (by omega)
  subst hr
  exact ⟨_, _, rfl, rfl, fun j u hu => by simp [Zt] at hu⟩
 ·rw [if_neg h1]
  exact ⟨_, _, rfl, Zf0 r, fun j u hu => ⟨g, off + 4, rfl, hat j u hu⟩⟩
theorem Zf2 {w : World} {l : List (FRow × Value)} (h : ∀ p ∈ l, ItsAt w p.2 p.1.its) : ∀ u ∈ Zt l, u.oneCell' = true := by
 intro u hu
 obtain ⟨p, hp, hx⟩ := List.mem_flatMap.1 hu
 obtain ⟨a, c, hv⟩ := ZN (h p hp)
 simp [encRV] at hx
 rcases hx with rfl | rfl | rfl | rfl
 ·rfl
 ·rfl
 ·rfl
 ·rw [hv]
  rfl
theorem Zel {w : World} {v : Value} {l : List It} (h : ItsAt w v l) (hne : l ≠ []) : ∀ j, v.ownBlock = some j → j < w.heap.size := by
 intro j hj
 obtain ⟨x, r, rfl⟩ : ∃ x r, l = x :: r := by
  cases l with
  | nil => exact absurd rfl hne
  | cons x r => exact ⟨x, r, rfl⟩
 obtain ⟨g, off, cap, rfl, h0, _⟩ := ZbA h (k := 0) rfl
 simp only [Value.ownBlock, Option.some.injEq] at hj
 subst hj
 exact World.block_lt_of_cell? w _ h0
theorem Zgw {w : World} {v : Value} {l : List (FRow × Value)} (h : ∃ a cap, v = .slice a l.length cap ∧ l.length ≤ cap ∧ ∀ (j : Nat) u, (Zt l)[j]? = some u → ∃ g off, a = some ⟨g, off, none⟩ ∧ w.cell? ⟨g, off + j, none⟩ = some u) (hne : l ≠ []) : ∀ j, v.ownBlock = some j → j < w.heap.size := by
 intro j hj
 obtain ⟨a, cap, rfl, _, hc⟩ := h
 obtain ⟨x, r, rfl⟩ : ∃ x r, l = x :: r := by
  cases l with
  | nil => exact absurd rfl hne
  | cons x r => exact ⟨x, r, rfl⟩
 obtain ⟨g, off, rfl, h0⟩ := hc 0 _ rfl
 simp only [Value.ownBlock, Option.some.injEq] at hj
 subst hj
 exact World.block_lt_of_cell? w _ h0
end Go.Proofs.YtdbjihkgafhakaaGreatDoor
/-
 ref15 (flows): Take: the walk.
-/
namespace Go.Proofs.YtdbjihkgafhakaaGreatDoor
open Go.RowKit
variable {G : Nat → Prop}
theorem ZbX {q : Int} {gv : Bool} {l l2 : List FRow} (h : PicksR q gv l l2) (hq1 : 1 ≤ q) (hq : q ≤ 64) (hok : RowsOk gv l) : RowsOk true l2 := by
 induction h with
 | @grant gv x r h =>
   refine ⟨?_, fun y hy => ?_⟩
   ·show NdsOk true (ndOf (ZF q gv x) :: r.map ndOf)
    rw [ZbP]
    exact ⟨Zcs hq1 hq hok.nds.1, hok.nds.2⟩
   ·rcases List.mem_cons.1 hy with rfl | hy
    ·rw [(Zas q gv x).1]
     exact hok.full x List.mem_cons_self
    ·exact hok.full y (List.mem_cons_of_mem _ hy)
 | @rotate gv x r l2 h hr ih =>
   refine ih ⟨?_, fun y hy => ?_⟩
   ·rw [List.map_append, List.map_cons, List.map_nil, ZaC]
    intro m hm
    rcases List.mem_append.1 hm with hm | hm
    ·exact hok.nds.2 m hm
    ·rw [List.mem_singleton] at hm
     subst hm
     have hc := Zcs hq1 hq hok.nds.1
     have hd : (ZD q gv (ndOf x)).df = (ZF q gv x).df := by rw [← ZbP]; rfl
     rw [ZbP]
     refine ⟨hc.1, hc.2.1, hc.2.2.1, ?_⟩
     obtain ⟨y, ys, hy, h1, h2⟩ := hok.full x List.mem_cons_self
     have hh : headC x.its = y.cost := by rw [hy]; rfl
     omega
   ·rcases List.mem_append.1 hy with hy | hy
    ·exact hok.full y (List.mem_cons_of_mem _ hy)
    ·rw [List.mem_singleton] at hy
     subst hy
     rw [(Zas q gv x).1]
     exact hok.full x List.mem_cons_self
theorem ZdK {q : Int} {gv : Bool} {l l2 : List FRow} (h : PicksR q gv l l2) (ho : ∀ r ∈ l, (r.its.map It.id).Nodup) : ∀ r ∈ l2, (r.its.map It.id).Nodup := by
 induction h with
 | @grant gv x r h =>
   intro y hy
   rcases List.mem_cons.1 hy with rfl | hy
   ·rw [(Zas q gv x).1]
    exact ho x List.mem_cons_self
   ·exact ho y (List.mem_cons_of_mem _ hy)
 | @rotate gv x r l2 h hr ih =>
   refine ih (fun y hy => ?_)
   rcases List.mem_append.1 hy with hy | hy
   ·exact ho y (List.mem_cons_of_mem _ hy)
   ·rw [List.mem_singleton] at hy
    subst hy
    rw [(Zas q gv x).1]
    exact ho x List.mem_cons_self
theorem Zem {w : World} {o n : Nat} {u t : Value} {T : TypeId} (h : w.heap[o]? = some (.cells #[u, t] T (0, 0))) (hn : 2 ≤ n) (z : Value) : w.cell? ⟨o, n, none⟩ ≠ some z := by
 intro e
 simp [World.cell?, h, hn] at e
theorem RefAt.box {w w' : World} {b o : Nat} {q : Int} {gv : Bool} {v u t : Value} {T : TypeId} {l : List (FRow × Value)} (h : RefAt G w b q gv v l) (hF : Fp (fun j => j = o) w w') (hob : ¬ b = o) (ho : w.heap[o]? = some (.cells #[u, t] T (0, 0))) (hI : ∀ p ∈ l, ∀ k, p.2.ownBlock = some k → ¬ k = o) : RefAt G w' b q gv v l := by
 refine ⟨hF.heap h.head hob, ?_, fun hl => (h.vg hl).grow hF.size, fun p hp => (h.ig p hp).grow hF.size, h.nb, fun k hk => h.up k (Nat.le_trans hF.size hk), h.few, h.fews⟩
 rcases l with _ | ⟨p, r⟩
 ·obtain ⟨⟨a, cap, hv, hle, _⟩, _⟩ := h.rows
  exact ⟨⟨a, cap, hv, hle, fun j u hu => by simp [Zt] at hu⟩, fun p hp => by cases hp⟩
 ·refine h.rows.fp hF (fun k hk e => ?_) hI
  obtain ⟨g, off, cap, rfl, _, _, _, _, c3⟩ := h.rows.at (k := 0) rfl
  have hg : g = k := by simpa [Value.ownBlock] using hk
  rw [hg, e] at c3
  exact Zem ho (by omega) _ c3
end Go.Proofs.YtdbjihkgafhakaaGreatDoor
/-
 ref15 (flows): Drop: the walk.
-/
namespace Go.Proofs.YtdbjihkgafhakaaGreatDoor
open Go.RowKit
variable {G : Nat → Prop}
end Go.Proofs.YtdbjihkgafhakaaGreatDoor
/-
 ref15 (flows): Push: bad arguments (the other cases are to come).
-/
namespace Go.Proofs.YtdbjihkgafhakaaGreatDoor
open Go.RowKit
variable {G : Nat → Prop}
set_option maxRecDepth 100000 in
set_option maxHeartbeats 1000000 in
theorem Zjc (id wt : Int) (x : It) (b : Nat) (q : Int) (gv : Bool) (v : Value) (l : List (FRow × Value)) (w : World) (h : RefAt G w b q gv v l) (hbad : Zz id wt) : Calls Tryz.prog 102 #[.pointer (some ⟨b, 0, none⟩), .int .i64 id, .int .i64 wt, .agg #[.int .i64 x.id, .int .i64 x.cost]] w fun e w' => e = .returned (.int .i64 1) ∧ Below w.heap.size w w' := by
 obtain ⟨a, cap, rfl, -⟩ := h.rows.form
 have HR := Lib.hid h
 have b0 : w.cell? ⟨b, 0, none⟩ = some (.int .i64 q) := Za h.head rfl
 have b1 : w.cell? ⟨b, 1, none⟩ = some (.slice a l.length cap) := Za h.head rfl
 have b2 : w.cell? ⟨b, 2, none⟩ = some (.bool gv) := Za h.head rfl
 have hbw := Zb h.head
 clear h
 go_enter Tryz.func102, Tryz.ntmps102
 go_wp2_with fail
 refine (ZbO id q gv _ l _ (HR.out.below box_below).rows HR.out.few).mono ?_
 rintro e w2 ⟨rfl, hb⟩
 have HB := Lib.hid hb
 clear hb b0 b1 b2
 by_cases h0 : id < 0
 ·go_wp2_with fail
  go_ret
  exact ⟨rfl, Zy HB.out⟩
 ·by_cases h1 : wt < 1
  ·go_wp2_with fail
   go_ret
   exact ⟨rfl, Zy HB.out⟩
  ·have h2 : wt > 16 := by unfold Zz at hbad; omega
   go_wp2_with fail
   go_ret
   exact ⟨rfl, Zy HB.out⟩
set_option maxRecDepth 100000 in
set_option maxHeartbeats 1000000 in
theorem Zkn (wt : Int) (x : It) (b : Nat) (q : Int) (gv : Bool) (v : Value) (l : List (FRow × Value)) (k : Nat) (p : FRow × Value) (w : World) (h : RefAt G w b q gv v l) (hp : l[k]? = some p) (hn : Za1 p.1.id (l.map Prod.fst) = k) (hgood : ¬ Zz p.1.id wt) (hwt : p.1.wt ≠ wt) : Calls Tryz.prog 102 #[.pointer (some ⟨b, 0, none⟩), .int .i64 p.1.id, .int .i64 wt, .agg #[.int .i64 x.id, .int .i64 x.cost]] w fun e w' => e = .returned (.int .i64 1) ∧ Below w.heap.size w w' := by
 obtain ⟨a, cap, rfl, -⟩ := h.rows.form
 have HR := Lib.hid h
 have HN := Lib.hid hn
 have HP := Lib.hid hp
 have b0 : w.cell? ⟨b, 0, none⟩ = some (.int .i64 q) := Za h.head rfl
 have b1 : w.cell? ⟨b, 1, none⟩ = some (.slice a l.length cap) := Za h.head rfl
 have b2 : w.cell? ⟨b, 2, none⟩ = some (.bool gv) := Za h.head rfl
 have hbw := Zb h.head
 have h0 : ¬ p.1.id < 0 := fun e => hgood (.inl e)
 have h1 : ¬ wt < 1 := fun e => hgood (.inr (.inl e))
 have h2 : ¬ wt > 16 := fun e => hgood (.inr (.inr e))
 clear h hn hp hgood
 go_enter Tryz.func102, Tryz.ntmps102
 go_wp2_with fail
 refine (ZbO p.1.id q gv _ l _ (HR.out.below box_below).rows HR.out.few).mono ?_
 rintro e w2 ⟨rfl, hb⟩
 rw [HN.out]
 have HB := Lib.hid hb
 have HR2 := Lib.hid ((HR.out.below box_below).below hb)
 obtain ⟨gb, off, cap', hv, hcap, c0, c1, c2, c3⟩ := HR2.out.rows.at HP.out
 have b1 : w2.cell? ⟨b, 1, none⟩ = some (.slice (some ⟨gb, off, none⟩) l.length cap') := by rw [← hv]; exact Za HR2.out.head rfl
 have hk : k < l.length := (List.getElem?_eq_some_iff.1 HP.out).1
 have hk0 : (k : Int) ≥ 0 := by omega
 have hne : (p.1.wt != wt) = true := by simp [hwt]
 clear hb b0 b2 c0 c2 c3 hv
 go_wp2_with fail
 go_ret
 exact ⟨rfl, Zy HB.out⟩
end Go.Proofs.YtdbjihkgafhakaaGreatDoor
/-
 ref15 (flows): Push on a row that is there: the walk. (draft, not built)
-/
namespace Go.Proofs.YtdbjihkgafhakaaGreatDoor
open Go.RowKit
variable {G : Nat → Prop}
set_option maxRecDepth 100000 in
set_option maxHeartbeats 4000000 in
theorem Zht (x : It) (b : Nat) (q : Int) (gv : Bool) (v : Value) (l : List (FRow × Value)) (k : Nat) (p : FRow × Value) (w : World) (h : RefAt G w b q gv v l) (hp : l[k]? = some p) (hn : Za1 p.1.id (l.map Prod.fst) = k) (hgood : ¬ Zz p.1.id p.1.wt) (hfull : ∀ r ∈ l.map Prod.fst, r.its ≠ []) (hlen : p.1.its.length < 1000000) : Calls Tryz.prog 102 #[.pointer (some ⟨b, 0, none⟩), .int .i64 p.1.id, .int .i64 p.1.wt, .agg #[.int .i64 x.id, .int .i64 x.cost]] w fun e w' => e = .returned (.int .i64 (itE p.1.its x)) ∧ Fp (fun j => j = b) w w' ∧ ∃ v' l', RefAt G w' b q gv v' l' ∧ l'.map Prod.fst = (l.map Prod.fst).set k { p.1 with its := if itE p.1.its x = 0 then p.1.its ++ [x] else p.1.its } := by
 obtain ⟨a, cap, rfl, -⟩ := h.rows.form
 have HR := Lib.hid h
 have HN := Lib.hid hn
 have HP := Lib.hid hp
 have b0 : w.cell? ⟨b, 0, none⟩ = some (.int .i64 q) := Za h.head rfl
 have b1 : w.cell? ⟨b, 1, none⟩ = some (.slice a l.length cap) := Za h.head rfl
 have b2 : w.cell? ⟨b, 2, none⟩ = some (.bool gv) := Za h.head rfl
 have hbw := Zb h.head
 have h0 : ¬ p.1.id < 0 := fun e => hgood (.inl e)
 have h1 : ¬ p.1.wt < 1 := fun e => hgood (.inr (.inl e))
 have h2 : ¬ p.1.wt > 16 := fun e => hgood (.inr (.inr e))
 have HFULL := Lib.hid hfull
 have HLEN := Lib.hid hlen
 obtain ⟨its', hits⟩ : ∃ its' : List It, its' = (if itE p.1.its x = 0 then p.1.its ++ [x] else p.1.its) := ⟨_, rfl⟩
 rw [← hits]
 have HITS := Lib.hid hits
 clear h hn hp hgood hfull hlen hits
 go_enter Tryz.func102, Tryz.ntmps102
 go_wp2_with fail
 refine (ZbO p.1.id q gv _ l _ (HR.out.below box_below).rows HR.out.few).mono ?_
 rintro e w2 ⟨rfl, hb⟩
 rw [HN.out]
 have HB := Lib.hid hb
 have hb' := hb
 have HR2 := Lib.hid ((HR.out.below box_below).below hb)
 obtain ⟨gb, off, cap', hv, hcap, c0, c1, c2, c3⟩ := HR2.out.rows.at HP.out
 have b1 : w2.cell? ⟨b, 1, none⟩ = some (.slice (some ⟨gb, off, none⟩) l.length cap') := by rw [← hv]; exact Za HR2.out.head rfl
 have hk : k < l.length := (List.getElem?_eq_some_iff.1 HP.out).1
 have hk0 : (k : Int) ≥ 0 := by omega
 have hne : (p.1.wt != p.1.wt) = false := by simp
 clear hb b0 b2 hv
 have hxb := (hb'.block w.heap.size (by simp)).trans Zf
 have HXB := Lib.hid hxb
 have z0 : w2.cell? ⟨w.heap.size, 0, none⟩ = some (.int .i64 x.id) := Za hxb rfl
 have z1 : w2.cell? ⟨w.heap.size, 1, none⟩ = some (.int .i64 x.cost) := Za hxb rfl
 have hw2 := Zb hxb
 clear hb' hxb
 obtain ⟨pa, pc, hpv⟩ := ZN (HR2.out.rows.its p (List.mem_of_getElem? HP.out))
 have HPV := Lib.hid hpv
 rw [hpv] at c3
 clear hpv
 go_wp2_with fail
 obtain ⟨w3, hw3⟩ : ∃ w3 : World, w3 = w2.alloc (.cells #[.int .i64 p.1.id, .int .i64 p.1.wt, .int .i64 p.1.df, .slice pa p.1.its.length pc] 157) := ⟨_, rfl⟩
 obtain ⟨bx, hbx⟩ : ∃ bx : Nat, bx = w2.heap.size := ⟨_, rfl⟩
 rw [← hw3, ← hbx]
 have hB3 : Below w2.heap.size w2 w3 := by rw [hw3]; exact box_below
 have hX3 : w3.heap[bx]? = some (.cells #[.int .i64 p.1.id, .int .i64 p.1.wt, .int .i64 p.1.df, .slice pa p.1.its.length pc] 157 (0, 0)) := by rw [hw3, hbx]; exact Zf
 have hit2 := HR2.out.rows.its p (List.mem_of_getElem? HP.out)
 rw [HPV.out] at hit2
 have hit3 : ItsAt w3 (.slice pa p.1.its.length pc) p.1.its := hit2.below hB3
 have HX3 := Lib.hid hX3
 have HB3 := Lib.hid hB3
 have HBX := Lib.hid hbx
 have hz3 : w3.heap.size = bx + 1 := by rw [hw3, hbx]; simp
 have HZ3 := Lib.hid hz3
 clear hw3 hX3 hB3 hbx b1 c0 c1 c2 c3 hz3 hit2
 refine (Zfb _ p.1.its x w3 hit3 HLEN.out).mono ?_
 rintro e w5 ⟨v5, rfl, hi5, hv5, hB5⟩
 rw [← HITS.out] at hi5
 obtain ⟨a5, c5, rfl⟩ := ZN hi5
 have hX5 : w5.heap[bx]? = some (.cells #[.int .i64 p.1.id, .int .i64 p.1.wt, .int .i64 p.1.df, .slice pa p.1.its.length pc] 157 (0, 0)) := (hB5.block bx (Zb HX3.out)).trans HX3.out
 have f3 : w5.frozen? ⟨bx, 3, none⟩ = false := Zd hX5
 have x3 : w5.cell? ⟨bx, 3, none⟩ = some (.slice pa p.1.its.length pc) := Za hX5 rfl
 have HX5 := Lib.hid hX5
 have HI5 := Lib.hid hi5
 have HV5 := Lib.hid hv5
 have HB5 := Lib.hid hB5
 clear hX5 hi5 hv5 hB5 hit3
 go_upto_region 12 with fail
 obtain ⟨w7, hw7⟩ : ∃ w7 : World, w7 = w5.setCell ⟨bx, 3, none⟩ (.slice a5 its'.length c5) := ⟨_, rfl⟩
 rw [← hw7]
 have hF57 : Fp (fun j => j = bx) w5 w7 := by rw [hw7]; exact (Fp.refl (fun j => j = bx) w5).setCell (p := ⟨bx, 3, none⟩) (fun _ => rfl) _
 have hX7 : w7.heap[bx]? = some (.cells #[.int .i64 p.1.id, .int .i64 p.1.wt, .int .i64 p.1.df, .slice a5 its'.length c5] 157 (0, 0)) := by rw [hw7]; exact Ze HX5.out
 have x0 : w7.cell? ⟨bx, 0, none⟩ = some (.int .i64 p.1.id) := Za hX7 rfl
 have x1 : w7.cell? ⟨bx, 1, none⟩ = some (.int .i64 p.1.wt) := Za hX7 rfl
 have x2 : w7.cell? ⟨bx, 2, none⟩ = some (.int .i64 p.1.df) := Za hX7 rfl
 have x3 : w7.cell? ⟨bx, 3, none⟩ = some (.slice a5 its'.length c5) := Za hX7 rfl
 have HF57 := Lib.hid hF57
 clear hw7 hX7 hF57 f3
 go_wp2_with fail
 have hsz3 := HZ3.out
 have hbxe := HBX.out
 have hbw2 := Zb HR2.out.head
 have hbxb : ¬ b = bx := by omega
 have hlen : l ≠ [] := fun e => by rw [e] at hk; simp at hk
 have hpm := List.mem_of_getElem? HP.out
 have hpne := HFULL.out p.1 (List.mem_map_of_mem hpm)
 have hR7 : RefAt G w7 b q gv _ l := ((HR2.out.below HB3.out).below HB5.out).fp HF57.out hbxb (fun j hj e => by
  have := Zgw HR2.out.rows.rows hlen j hj
  omega) (fun p' hp' j hj e => by
  have := Zel (HR2.out.rows.its p' hp') (HFULL.out p'.1 (List.mem_map_of_mem hp')) j hj
  omega)
 have hpl : ∀ j, (Value.slice pa p.1.its.length pc).ownBlock = some j → j < bx := fun j hj => by
  rw [← HPV.out] at hj
  have := Zel (HR2.out.rows.its p hpm) hpne j hj
  omega
 have hit7 : ItsAt w7 (.slice a5 its'.length c5) its' := HI5.out.fp HF57.out (fun j hj e => by
  rcases HV5.out with h | h
  ·rw [h] at hj
   have := hpl j hj
   omega
  ·have := (h j hj).1
   omega)
 have hvb : InG G w7 (Value.slice a5 its'.length c5) := by
  intro j hj
  have h75 := HF57.out.size
  rcases HV5.out with h | h
  ·rw [h, ← HPV.out] at hj
   have h1 := HR2.out.ig p hpm j hj
   have h2 := HB3.out.size
   have h3 := HB5.out.size
   exact ⟨h1.1, by omega⟩
  ·have h1 := h j hj
   exact ⟨(HR2.out.below HB3.out).up j h1.1, by omega⟩
 have hne' : its' ≠ [] := by
  rw [HITS.out]
  split
  ·simp
  ·exact hpne
 have hfew : its'.length ≤ 1000000 := by
  rw [HITS.out]
  split
  ·have := HLEN.out
   simp
   omega
  ·have := HLEN.out
   omega
 refine (Zjb b q gv _ l k { p.1 with its := its' } (.slice a5 its'.length c5) w7 hR7 hk hit7 hvb hfew).mono ?_
 rintro e w8 ⟨rfl, hF8, v8, hR8⟩
 have hwv : withV k ({ p.1 with its := its' }, Value.slice a5 its'.length c5) gv l = (gv, l.set k ({ p.1 with its := its' }, Value.slice a5 its'.length c5)) := if_neg hne'
 rw [hwv] at hR8
 have HF8 := Lib.hid hF8
 have HR8 := Lib.hid hR8
 clear hF8 hR8 x0 x1 x2 x3 hR7 hit7 hvb hfew hwv hpl hpne hpm
 go_wp2_with fail
 go_ret
 have hsz := HB.out.size
 refine ⟨rfl, ((((Fp.of_below (S := fun j => j = b) (Zy HB.out)).then_below HB3.out).then_below HB5.out).trans HF57.out (fun j hj e => by simp at hsz; omega)).trans HF8.out (fun _ _ h => h), v8, _, HR8.out, ?_⟩
 rw [Zbi]
end Go.Proofs.YtdbjihkgafhakaaGreatDoor
/-
 ref15 (flows): Push of a row that is new: the walk; Push in one law.
-/
namespace Go.Proofs.YtdbjihkgafhakaaGreatDoor
open Go.RowKit
variable {G : Nat → Prop}
theorem ZmW {w : World} {v : Value} {l : List (FRow × Value)} (h : RowsAt w v l) : SrcAt 4 w v l.length (Zt l) := by
 obtain ⟨⟨a, cap, rfl, _, hc⟩, _⟩ := h
 exact ⟨a, cap, rfl, Zf0 l, hc⟩
theorem Zlu {w4 wa : World} {b : Nat} {q : Int} {gv : Bool} {v2 v3 : Value} {p : FRow × Value} {l : List (FRow × Value)} (hR : RefAt G w4 b q gv v2 l) (hi : ItsAt w4 p.2 p.1.its) (hg : InG G w4 p.2) (hlen : l.length < 1000000) (hpl : p.1.its.length ≤ 1000000) (hL : Laid2 157 4 w4 v3 (l.length + 1) (Zt l ++ encRV p) wa) :
 RefAt G (wa.setCell ⟨b, 1, none⟩ v3) b q gv v3 (l ++ [p]) ∧ Fp (fun j => j = b) w4 (wa.setCell ⟨b, 1, none⟩ v3) := by
 have hbw := Zb hR.head
 have hF : Fp (fun j => j = b) wa (wa.setCell ⟨b, 1, none⟩ v3) := (Fp.refl (fun j => j = b) wa).setCell (p := ⟨b, 1, none⟩) (fun _ => rfl) _
 have hsz := Nat.le_trans hL.below.size hF.size
 have hvg : InG G (wa.setCell ⟨b, 1, none⟩ v3) v3 := (Zb0 hL.own (fun k hk => hR.up k hk)).grow hF.size
 have hv3 : v3.ownBlock ≠ some b := hvg.not hR.nb
 have hm : ∀ {P : FRow × Value → Prop}, (∀ y ∈ l, P y) → P p → ∀ y ∈ l ++ [p], P y := fun h1 h2 y hy => by
  rcases List.mem_append.1 hy with hy | hy
  ·exact h1 y hy
  ·rw [List.mem_singleton] at hy
   subst hy
   exact h2
 have hig : ∀ y ∈ l ++ [p], InG G w4 y.2 := hm hR.ig hg
 refine ⟨⟨Ze ((hL.below.block b hbw).trans hR.head), ?_, fun _ => hvg, fun y hy => (hig y hy).grow hsz, hR.nb, fun k hk => hR.up k (Nat.le_trans hsz hk), by rw [List.length_append, List.length_singleton]; omega, hm hR.fews hpl⟩, (Fp.of_below hL.below).trans hF (fun _ _ h => h)⟩
 refine (ZbB (l := l ++ [p]) (by rw [List.length_append, ZaD]; exact hL.own) (fun y hy => ItsAt.below (hm hR.rows.its hi y hy) hL.below)).fp hF (fun j hj e => hv3 (e ▸ hj)) (fun y hy j hj e => (hig y hy).not hR.nb (e ▸ hj))
set_option maxRecDepth 100000 in
set_option maxHeartbeats 4000000 in
theorem Zjd (id wt : Int) (x : It) (b : Nat) (q : Int) (gv : Bool) (v : Value) (l : List (FRow × Value)) (w : World) (h : RefAt G w b q gv v l) (hn : Za1 id (l.map Prod.fst) = -1) (hgood : ¬ Zz id wt) (hlen : l.length < 1000000) : Calls Tryz.prog 102 #[.pointer (some ⟨b, 0, none⟩), .int .i64 id, .int .i64 wt, .agg #[.int .i64 x.id, .int .i64 x.cost]] w fun e w' => e = .returned (.int .i64 (itE [] x)) ∧ Fp (fun j => j = b) w w' ∧ ∃ v' l', RefAt G w' b q gv v' l' ∧ l'.map Prod.fst = if itE [] x = 0 then l.map Prod.fst ++ [⟨id, wt, 0, [x]⟩] else l.map Prod.fst := by
 have HR := Lib.hid h
 have HN := Lib.hid hn
 have b0 : w.cell? ⟨b, 0, none⟩ = some (.int .i64 q) := Za h.head rfl
 have b1 : w.cell? ⟨b, 1, none⟩ = some v := Za h.head rfl
 have b2 : w.cell? ⟨b, 2, none⟩ = some (.bool gv) := Za h.head rfl
 have hbw := Zb h.head
 have h0 : ¬ id < 0 := fun e => hgood (.inl e)
 have h1 : ¬ wt < 1 := fun e => hgood (.inr (.inl e))
 have h2 : ¬ wt > 16 := fun e => hgood (.inr (.inr e))
 have HLEN := Lib.hid hlen
 obtain ⟨rows', hrows⟩ : ∃ rows' : List FRow, rows' = (if itE [] x = 0 then l.map Prod.fst ++ [⟨id, wt, 0, [x]⟩] else l.map Prod.fst) := ⟨_, rfl⟩
 rw [← hrows]
 have HROWS := Lib.hid hrows
 clear h hn hgood hlen hrows
 go_enter Tryz.func102, Tryz.ntmps102
 go_wp2_with fail
 refine (ZbO id q gv _ l _ (HR.out.below box_below).rows HR.out.few).mono ?_
 rintro e w2 ⟨rfl, hb⟩
 rw [HN.out]
 have HB := Lib.hid hb
 have HR2 := Lib.hid ((HR.out.below box_below).below hb)
 have hxb := (hb.block w.heap.size (by simp)).trans Zf
 have z0 : w2.cell? ⟨w.heap.size, 0, none⟩ = some (.int .i64 x.id) := Za hxb rfl
 have z1 : w2.cell? ⟨w.heap.size, 1, none⟩ = some (.int .i64 x.cost) := Za hxb rfl
 clear hb b0 b1 b2 hxb
 go_wp2_with fail
 refine (Zfb _ [] x w2 (ZnM w2) (by decide)).mono ?_
 rintro e w5 ⟨v5, rfl, hi5, hv5, hB5⟩
 have HB5 := Lib.hid hB5
 have HR5 := Lib.hid (HR2.out.below hB5)
 by_cases he : itE [] x = 0
 ·rw [if_pos he] at hi5
  have HROWS := Lib.hid (HROWS.out.trans (if_pos he))
  have HE := Lib.hid he
  rw [he]
  have HG5 := Lib.hid (show InG G w5 v5 from fun j hj => by
   rcases hv5 with h | h
   ·rw [h] at hj
    cases hj
   ·exact ⟨HR2.out.up j (h j hj).1, (h j hj).2⟩)
  have HI5 := Lib.hid (show ItsAt w5 v5 [x] from hi5)
  clear hi5 hv5 hB5 z0 z1 he
  obtain ⟨a5, c5, rfl⟩ : ∃ a5 c5, v5 = .slice a5 1 c5 := ZN HI5.out
  obtain ⟨i0, hi0, hz0, hz1, hz2⟩ := info_parts Za8
  have HS1 := Lib.hid (ZmW ((HR5.out.below (box_below (o := .cells #[] 157))).rows))
  have HON := Lib.hid (Zf2 (w := w5) HR5.out.rows.its)
  have hlen := HLEN.out
  have hl1 : l.length ≤ maxLen := by unfold maxLen; omega
  have hl2 : l.length * 48 ≤ 140737488355328 := by omega
  have hl3 : l.length < 140737488355328 := by omega
  have hl4 : (l.length + 1) * 48 ≤ 140737488355328 := by omega
  have hbw5 := Zb HR5.out.head
  have b1 : w5.cell? ⟨b, 1, none⟩ = some v := Za HR5.out.head rfl
  clear hlen
  go_upto_region 7 with fail
  go_wp2_with (first
   | (at_builtin; refine ZcN rfl _ _ 102 rfl 157 i0 _ 4 48 Tryz.underlying102 hi0 hz0 hz1 hz2 rfl (by decide) w5.heap.size (by simp [Act.eval]) (heap_alloc_new w5 _) v l.length (Zt l) rfl HS1.out HON.out hl1 hl2 ?_; intro v6 w6 ho6 hg6 hat6; (have hb6 : Below w5.heap.size w5 w6 := ⟨hg6.os, hg6.tape, hg6.output, Nat.le_trans (by simp) hg6.size, fun j hj => (hg6.block j (by simp; omega) (fun e => by simp at e; omega)).trans (Below.heap_alloc _ _ _ hj)⟩); (have HO6 := Lib.hid ho6); (have HB6 := Lib.hid hb6); (have hz6 : w5.heap.size ≤ w6.heap.size := hb6.size); clear ho6 hg6 hat6 hb6)
   | (at_builtin; refine Zv (us := #[.int .i64 id, .int .i64 wt, .int .i64 0, .slice a5 1 c5]) rfl _ _ 102 rfl w5.heap.size _ 4 48 Tryz.underlying102 Za8 rfl (by decide) v6 l.length (Zt l) rfl HO6.out rfl rfl ?c0 ?c1 ?c2 ?c3 ?_; (case c0 => simp [Value.oneCell']); (case c1 => exact hz6); (case c2 => exact hl3); (case c3 => exact hl4); intro gg gcap w8 ho8 hg8 hat8; (have HB8 := Lib.hid (HB6.out.trans ⟨hg8.os, hg8.tape, hg8.output, hg8.size, fun j hj => hg8.block j (Nat.lt_of_lt_of_le hj hz6) (fun e => by have := Zl HO6.out j e.symm; omega)⟩ : Below w5.heap.size w5 w8)); (have HO8 := Lib.hid ho8); (have hh8 := (HB8.out.block b hbw5).trans HR5.out.head); (have k1 : w8.cell? ⟨b, 1, none⟩ = some v := Za hh8 rfl); (have k2 : w8.frozen? ⟨b, 1, none⟩ = false := Zd hh8); clear ho8 hg8 hat8 hh8))
  go_ret
  have hcl := Zlu (p := (⟨id, wt, 0, [x]⟩, .slice a5 1 c5)) HR5.out HI5.out HG5.out HLEN.out (by simp) ⟨HO8.out, HB8.out⟩
  refine ⟨ZM HE.out.symm, ((Fp.of_below (S := fun j => j = b) (Zy HB.out)).then_below HB5.out).trans hcl.2 (fun _ _ h => h), _, _, hcl.1, ?_⟩
  rw [List.map_append, HROWS.out]
  rfl
 ·have hne : (itE [] x == 0) = false := beq_eq_false_iff_ne.2 he
  have HE := Lib.hid he
  clear hi5 hv5 hB5 z0 z1 he
  go_wp2_with fail
  go_ret
  exact ⟨rfl, (Fp.of_below (S := fun j => j = b) (Zy HB.out)).then_below HB5.out, _, l, HR5.out, (HROWS.out.trans (if_neg HE.out)).symm⟩
end Go.Proofs.YtdbjihkgafhakaaGreatDoor
/-
 ref15 (flows): Push in one law; Drop in one law.
-/
namespace Go.Proofs.YtdbjihkgafhakaaGreatDoor
open Go.RowKit
variable {G : Nat → Prop}
theorem Zfg {id : Int} {rows : List FRow} (h : findF id rows = none) : Za1 id rows = -1 := by unfold Za1; rw [h]
theorem Zdf {id : Int} {rows : List FRow} {k : Nat} (h : findF id rows = some k) : Za1 id rows = k := by unfold Za1; rw [h]
theorem ZnP {l : List (FRow × Value)} {k : Nat} {r : FRow} (h : (l.map Prod.fst)[k]? = some r) : ∃ p, l[k]? = some p ∧ p.1 = r := by
 rw [List.getElem?_map] at h
 cases hl : l[k]? with
 | none => rw [hl] at h; cases h
 | some p =>
   rw [hl] at h
   exact ⟨p, rfl, Option.some.inj h⟩
def ZjU (G : Nat → Prop) (b : Nat) (q : Int) (u : Value) (gv : Bool) (rows : List FRow) (w : World) (e : Ending) (w' : World) : Prop :=
 e = .returned u ∧ Fp (fun j => j = b) w w' ∧ ∃ v' l', RefAt G w' b q gv v' l' ∧ l'.map Prod.fst = rows
theorem Zje (id wt : Int) (x : It) (b : Nat) (q : Int) (gv : Bool) (v : Value) (l : List (FRow × Value)) (w : World) (h : RefAt G w b q gv v l) (hfull : ∀ r ∈ l.map Prod.fst, r.its ≠ []) (hf : totR (l.map Prod.fst) < 1000000) :
 Calls Tryz.prog 102 #[.pointer (some ⟨b, 0, none⟩), .int .i64 id, .int .i64 wt, .agg #[.int .i64 x.id, .int .i64 x.cost]] w (ZjU G b q (.int .i64 (pushE id wt x (l.map Prod.fst))) gv (ZQ id wt x (l.map Prod.fst)) w) := by
 have hsame : ∀ {w'}, Below w.heap.size w w' → pushE id wt x (l.map Prod.fst) = 1 → ZjU G b q (.int .i64 (pushE id wt x (l.map Prod.fst))) gv (ZQ id wt x (l.map Prod.fst)) w (.returned (.int .i64 1)) w' := fun {w'} hb he => by
  unfold ZQ
  rw [he, if_neg (by decide)]
  exact ⟨rfl, Fp.of_below hb, v, l, h.below hb, rfl⟩
 by_cases hbad : Zz id wt
 ·have he : pushE id wt x (l.map Prod.fst) = 1 := by
   unfold pushE
   split
   ·rw [if_pos (.inl hbad)]
   ·rw [if_pos hbad]
  refine (Zjc id wt x b q gv v l w h hbad).mono ?_
  rintro e w' ⟨rfl, hb⟩
  exact hsame hb he
 ·rcases ZeN (id := id) (rows := l.map Prod.fst) with ⟨h1, h2⟩ | ⟨k, r, h1, h2, h3, h4⟩
  ·have he : pushE id wt x (l.map Prod.fst) = itE [] x := by
    unfold pushE
    rw [h2]
    exact if_neg hbad
   have hlen : l.length < 1000000 := by
    have := Zdr hfull
    rw [List.length_map] at this
    omega
   refine (Zjd id wt x b q gv v l w h (Zfg h1) hbad hlen).mono ?_
   rintro e w' ⟨rfl, hF, v', l', hR, hm⟩
   unfold ZQ pushR
   rw [he, h1]
   exact ⟨rfl, hF, v', l', hR, hm⟩
  ·obtain ⟨p, hp, rfl⟩ := ZnP h2
   subst h3
   by_cases hw : p.1.wt = wt
   ·subst hw
    have he : pushE p.1.id p.1.wt x (l.map Prod.fst) = itE p.1.its x := by
     unfold pushE
     rw [h4]
     exact if_neg (by rintro (h | h); exact hbad h; exact h rfl)
    have hlen : p.1.its.length < 1000000 := Nat.lt_of_le_of_lt (ZeO (List.mem_of_getElem? h2)) hf
    refine (Zht x b q gv v l k p w h hp (Zdf h1) hbad hfull hlen).mono ?_
    rintro e w' ⟨rfl, hF, v', l', hR, hm⟩
    unfold ZQ pushR
    rw [he, h1]
    refine ⟨rfl, hF, v', l', hR, ?_⟩
    rw [hm]
    by_cases h0 : itE p.1.its x = 0
    ·rw [if_pos h0, if_pos h0]
     simp only
     rw [ZcE h2]
    ·rw [if_neg h0, if_neg h0]
     exact Zch h2
   ·have he : pushE p.1.id wt x (l.map Prod.fst) = 1 := by
     unfold pushE
     rw [h4]
     exact if_pos (.inr hw)
    refine (Zkn wt x b q gv v l k p w h hp (Zdf h1) hbad hw).mono ?_
    rintro e w' ⟨rfl, hb⟩
    exact hsame hb he
section
variable {pre : List Int} {ρ : Roles} {f : Nat} {q : Int} {gv : Bool} {rows : List FRow}
end
end Go.Proofs.YtdbjihkgafhakaaGreatDoor
