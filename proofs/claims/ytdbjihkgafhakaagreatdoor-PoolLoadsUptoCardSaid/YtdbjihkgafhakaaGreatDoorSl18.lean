/-
 ref16 (shares): how the document's share lies in memory; Find, with: the walks.
-/
import Derived.Test.YtdbjihkgafhakaaGreatDoorSl09
import Derived.Test.YtdbjihkgafhakaaGreatDoorSl10
import Derived.Test.YtdbjihkgafhakaaGreatDoorSl17
import Derived.Lib.QuietBelow
import Derived.BigQuiet
import Derived.StillTailTactics
namespace Go.Proofs.YtdbjihkgafhakaaGreatDoor
open Go.RowKit
variable {G : Nat → Prop}
abbrev DV := TRow × Int × Value × List (FRow × Value)
def encDV (p : DV) : List Value := [.int .i64 p.1.id, .int .i64 p.1.wt, .int .i64 p.1.df, .int .i64 p.2.1, p.2.2.1, .bool p.1.gv]
theorem Zcu (p : DV) : (encDV p).length = 6 := rfl
def Z6 (l : List DV) : List Value := l.flatMap encDV
theorem Zgk (l : List DV) : (Z6 l).length = l.length * 6 := Zbc encDV 6 Zcu l
theorem Zco (l : List DV) (p : DV) : Z6 (l ++ [p]) = Z6 l ++ encDV p := by simp [Z6]
theorem Zcv : (Tryz.prog.info? 106).map (fun i => (i.zero, i.size, i.bytes)) = some (some (.agg #[.int .i64 0, .int .i64 0, .int .i64 0, .int .i64 0, .slice none 0 0, .bool false]), 6, 64) := by kernel_rfl
structure InvAt (w : World) (p : DV) : Prop where
 rows : RowsAt w p.2.2.1 p.2.2.2
 same : p.2.2.2.map Prod.fst = p.1.rows
theorem InvAt.below {w w' : World} {p : DV} (h : InvAt w p) (hb : Below w.heap.size w w') : InvAt w' p := ⟨h.rows.below hb, h.same⟩
structure InvG (G : Nat → Prop) (w : World) (p : DV) : Prop where
 vg : p.2.2.2 ≠ [] → InG G w p.2.2.1
 ig : ∀ r ∈ p.2.2.2, InG G w r.2
 few : p.2.2.2.length ≤ 1000000
 fews : ∀ r ∈ p.2.2.2, r.1.its.length ≤ 1000000
theorem InvG.grow {w w' : World} {p : DV} (h : InvG G w p) (hs : w.heap.size ≤ w'.heap.size) : InvG G w' p := ⟨fun hl => (h.vg hl).grow hs, fun r hr => (h.ig r hr).grow hs, h.few, h.fews⟩
theorem InvAt.fp {S : Nat → Prop} {w w' : World} {p : DV} (h : InvAt w p) (hg : InvG G w p) (hF : Fp S w w') (hS : ∀ k, k < w.heap.size → G k → ¬ S k) : InvAt w' p :=
 ⟨h.rows.fp' hF (fun hl k hk => hS k (hg.vg hl k hk).2 (hg.vg hl k hk).1) (fun r hr k hk => hS k (hg.ig r hr k hk).2 (hg.ig r hr k hk).1), h.same⟩
structure DRowsAt (w : World) (v : Value) (l : List DV) : Prop where
 rows : ∃ a cap, v = .slice a l.length cap ∧ l.length ≤ cap ∧ ∀ (j : Nat) u, (Z6 l)[j]? = some u → ∃ g off, a = some ⟨g, off, none⟩ ∧ w.cell? ⟨g, off + j, none⟩ = some u
 inv : ∀ p ∈ l, InvAt w p
theorem DRowsAt.form {w : World} {v : Value} {l : List DV} (h : DRowsAt w v l) : ∃ a cap, v = .slice a l.length cap ∧ l.length ≤ cap := by
 obtain ⟨⟨a, cap, hv, hle, _⟩, _⟩ := h
 exact ⟨a, cap, hv, hle⟩
theorem DRowsAt.below {w w' : World} {v : Value} {l : List DV} (h : DRowsAt w v l) (hb : Below w.heap.size w w') : DRowsAt w' v l := by
 obtain ⟨⟨a, cap, rfl, hle, hc⟩, hi⟩ := h
 exact ⟨⟨a, cap, rfl, hle, fun j u hu => by obtain ⟨g, off, ha, h0⟩ := hc j u hu; exact ⟨g, off, ha, Zc hb h0⟩⟩, fun p hp => (hi p hp).below hb⟩
theorem DRowsAt.fp {S : Nat → Prop} {w w' : World} {v : Value} {l : List DV} (h : DRowsAt w v l) (hg : l ≠ [] → InG G w v) (hig : ∀ p ∈ l, InvG G w p) (hF : Fp S w w') (hS : ∀ k, k < w.heap.size → G k → ¬ S k) : DRowsAt w' v l := by
 obtain ⟨⟨a, cap, rfl, hle, hc⟩, hi⟩ := h
 refine ⟨⟨a, cap, rfl, hle, fun j u hu => ?_⟩, fun p hp => (hi p hp).fp (hig p hp) hF hS⟩
 obtain ⟨g, off, rfl, h0⟩ := hc j u hu
 have hl : l ≠ [] := fun e => by rw [e] at hu; simp [Z6] at hu
 exact ⟨g, off, rfl, hF.cell h0 (hS g (hg hl g rfl).2 (hg hl g rfl).1)⟩
theorem DRowsAt.at {w : World} {v : Value} {l : List DV} (h : DRowsAt w v l) {k : Nat} {p : DV} (hp : l[k]? = some p) : ∃ g off cap, v = .slice (some ⟨g, off, none⟩) l.length cap ∧ l.length ≤ cap ∧ w.cell? ⟨g, off + k * 6, none⟩ = some (.int .i64 p.1.id) ∧ w.cell? ⟨g, off + k * 6 + 1, none⟩ = some (.int .i64 p.1.wt) ∧
 w.cell? ⟨g, off + k * 6 + 2, none⟩ = some (.int .i64 p.1.df) ∧ w.cell? ⟨g, off + k * 6 + 3, none⟩ = some (.int .i64 p.2.1) ∧ w.cell? ⟨g, off + k * 6 + 4, none⟩ = some p.2.2.1 ∧ w.cell? ⟨g, off + k * 6 + 5, none⟩ = some (.bool p.1.gv) := by
 obtain ⟨⟨a, cap, rfl, hle, hc⟩, _⟩ := h
 have key : ∀ i u, (encDV p)[i]? = some u → (Z6 l)[k * 6 + i]? = some u := fun i u hu => by
  have hi : i < 6 := (List.getElem?_eq_some_iff.1 hu).1
  unfold Z6
  rw [Zbf encDV 6 Zcu i hp hi]
  exact hu
 obtain ⟨g, off, rfl, h0⟩ := hc _ _ (key 0 _ rfl)
 have get : ∀ i u, (encDV p)[i]? = some u → w.cell? ⟨g, off + k * 6 + i, none⟩ = some u := fun i u hu => by
  obtain ⟨g', off', he, h1⟩ := hc _ _ (key i u hu)
  cases he
  rw [Nat.add_assoc]
  exact h1
 exact ⟨g, off, cap, rfl, hle, get 0 _ rfl, get 1 _ rfl, get 2 _ rfl, get 3 _ rfl, get 4 _ rfl, get 5 _ rfl⟩
theorem ZeD {T : TypeId} {w : World} {base : Nat} {v : Value} {l : List DV} (h : w.ownsRow base T 6 v l.length (Z6 l)) (hi : ∀ p ∈ l, InvAt w p) : DRowsAt w v l := by
 obtain ⟨a, cap, rfl, hle, _, _, hc⟩ := ZC h
 exact ⟨⟨a, cap, rfl, hle, fun j u hu => by obtain ⟨g, ha, _, _, h0, _⟩ := hc j u hu; exact ⟨g, 0, ha, by rw [Nat.zero_add]; exact h0⟩⟩, hi⟩
theorem DRowsAt.src {w : World} {v : Value} {l : List DV} (h : DRowsAt w v l) : SrcAt 6 w v l.length (Z6 l) := by
 obtain ⟨⟨a, cap, rfl, _, hc⟩, _⟩ := h
 exact ⟨a, cap, rfl, Zgk l, hc⟩
theorem ZkO {w : World} {l : List DV} (h : ∀ p ∈ l, InvAt w p) : ∀ u ∈ Z6 l, u.oneCell' = true := by
 intro u hu
 obtain ⟨p, hp, hx⟩ := List.mem_flatMap.1 hu
 obtain ⟨a, c, hv, _⟩ := (h p hp).rows.form
 simp [encDV] at hx
 rcases hx with rfl | rfl | rfl | rfl | rfl | rfl
 ·rfl
 ·rfl
 ·rfl
 ·rfl
 ·rw [hv]
  rfl
 ·rfl
structure RefS (G : Nat → Prop) (w : World) (b : Nat) (q : Int) (gv : Bool) (v : Value) (l : List DV) : Prop where
 head : w.heap[b]? = some (.cells #[.int .i64 q, v, .bool gv] 100 (0, 0))
 rows : DRowsAt w v l
 vg : l ≠ [] → InG G w v
 ig : ∀ p ∈ l, InvG G w p
 nb : ¬ G b
 up : ∀ k, w.heap.size ≤ k → G k
 few : l.length ≤ 1000000
 qs : ∀ p ∈ l, p.2.1 = q
theorem RefS.move {G' S : Nat → Prop} {w w' : World} {b : Nat} {q : Int} {gv : Bool} {v : Value} {l : List DV} (h : RefS G w b q gv v l) (hF : Fp S w w') (h0 : ¬ S b) (hG : ∀ k, k < w.heap.size → G k → G' k ∧ ¬ S k) (hb : ¬ G' b) (hup : ∀ k, w'.heap.size ≤ k → G' k) : RefS G' w' b q gv v l :=
 ⟨hF.heap h.head h0, h.rows.fp h.vg h.ig hF (fun k hk hg => (hG k hk hg).2), fun hl k hk => ⟨(hG k (h.vg hl k hk).2 (h.vg hl k hk).1).1, Nat.lt_of_lt_of_le (h.vg hl k hk).2 hF.size⟩,
   fun p hp => ⟨fun hl k hk => ⟨(hG k ((h.ig p hp).vg hl k hk).2 ((h.ig p hp).vg hl k hk).1).1, Nat.lt_of_lt_of_le ((h.ig p hp).vg hl k hk).2 hF.size⟩, fun r hr k hk => ⟨(hG k ((h.ig p hp).ig r hr k hk).2 ((h.ig p hp).ig r hr k hk).1).1, Nat.lt_of_lt_of_le ((h.ig p hp).ig r hr k hk).2 hF.size⟩, (h.ig p hp).few, (h.ig p hp).fews⟩, hb, hup, h.few, h.qs⟩
theorem RefS.below {w w' : World} {b : Nat} {q : Int} {gv : Bool} {v : Value} {l : List DV} (h : RefS G w b q gv v l) (hb : Below w.heap.size w w') : RefS G w' b q gv v l :=
 h.move (S := fun _ => False) (Fp.of_below hb) (fun h => h) (fun _ _ hg => ⟨hg, fun h => h⟩) h.nb (fun k hk => h.up k (Nat.le_trans hb.size hk))
theorem RefS.fp {S : Nat → Prop} {w w' : World} {b : Nat} {q : Int} {gv : Bool} {v : Value} {l : List DV} (h : RefS G w b q gv v l) (hF : Fp S w w') (h0 : ¬ S b) (hS : ∀ k, k < w.heap.size → G k → ¬ S k) : RefS G w' b q gv v l :=
 h.move hF h0 (fun k hk hg => ⟨hg, hS k hk hg⟩) h.nb (fun k hk => h.up k (Nat.le_trans hF.size hk))
theorem ZkP {id : Int} {l : List TRow} (hn : ∀ j y, j < l.length → l[j]? = some y → y.id ≠ id) : findT id l = none := by
 unfold findT
 rw [List.findIdx?_eq_none_iff]
 intro x hx
 obtain ⟨j, hj, rfl⟩ := List.getElem_of_mem hx
 have := hn j _ hj (List.getElem?_eq_getElem hj)
 simpa using this
end Go.Proofs.YtdbjihkgafhakaaGreatDoor
/-
 ref16 (shares): with: the walk.
-/
namespace Go.Proofs.YtdbjihkgafhakaaGreatDoor
open Go.RowKit
variable {G : Nat → Prop}
def Zaa (k : Nat) (p : DV) (gv : Bool) (l : List DV) : Bool × List DV := if p.2.2.2 = [] then (if k = 0 then false else gv, l.eraseIdx k) else (gv, l.set k p)
theorem Zjx {k : Nat} {p : DV} (hp : p.2.2.2.map Prod.fst = p.1.rows) (gv : Bool) (l : List DV) : (Zaa k p gv l).1 = (withT k p.1 gv (l.map Prod.fst)).1 ∧ (Zaa k p gv l).2.map Prod.fst = (withT k p.1 gv (l.map Prod.fst)).2 := by
 have he : p.2.2.2 = [] ↔ p.1.rows = [] := by
  rw [← hp]
  simp
 unfold Zaa withT
 by_cases h : p.2.2.2 = []
 ·rw [if_pos h, if_pos (he.1 h)]
  exact ⟨rfl, eraseIdx_map' _ _ _⟩
 ·rw [if_neg h, if_neg (fun e => h (he.2 e))]
  exact ⟨rfl, Zbi _ _ _ _⟩
def Zai (k : Nat) (p : DV) (l : List DV) (i : Nat) : List DV := if i ≤ k then l.take i else if p.2.2.2 = [] then (l.take i).eraseIdx k else (l.take i).set k p
theorem Zil {k i : Nat} {p y : DV} {l : List DV} (hy : l[i]? = some y) (hik : i ≠ k) : Zai k p l (i + 1) = Zai k p l i ++ [y] := by
 have hi : i < l.length := (List.getElem?_eq_some_iff.1 hy).1
 have ht : l.take (i + 1) = l.take i ++ [y] := by rw [List.take_succ_eq_append_getElem hi, (List.getElem?_eq_some_iff.1 hy).2]
 unfold Zai
 by_cases h : i < k
 ·rw [if_pos (show i + 1 ≤ k by omega), if_pos (show i ≤ k by omega), ht]
 ·have hl : k < (l.take i).length := by rw [List.length_take]; omega
  rw [if_neg (show ¬ i + 1 ≤ k by omega), if_neg (show ¬ i ≤ k by omega), ht]
  split
  ·exact Zc6 _ _ _ hl
  ·exact ZeP _ _ _ _ hl
theorem Zjy {k : Nat} {p : DV} {l : List DV} (hk : k < l.length) : Zai k p l (k + 1) = Zai k p l k ++ (if p.2.2.2 = [] then [] else [p]) := by
 have ht : l.take (k + 1) = l.take k ++ [l[k]] := List.take_succ_eq_append_getElem hk
 have hl : (l.take k).length = k := by rw [List.length_take]; omega
 unfold Zai
 rw [if_neg (by omega), if_pos (Nat.le_refl _), ht]
 split
 ·have h := Zcm (l.take k) l[k]
  rw [hl] at h
  rw [h, List.append_nil]
 ·have h := ZdI (l.take k) l[k] p
  rw [hl] at h
  exact h
theorem ZkQ {k : Nat} {p : DV} {gv : Bool} {l : List DV} (hk : k < l.length) : Zai k p l l.length = (Zaa k p gv l).2 := by
 unfold Zai Zaa
 rw [if_neg (by omega), List.take_of_length_le (Nat.le_refl _)]
 split <;> rfl
theorem ZkR {k i : Nat} {p : DV} {l : List DV} : (Zai k p l i).length ≤ i := by
 unfold Zai
 split
 ·rw [List.length_take]; omega
 ·split
  ·exact Nat.le_trans (List.length_eraseIdx_le _ _) (by rw [List.length_take]; omega)
  ·rw [List.length_set, List.length_take]; omega
theorem ZeE {k : Nat} {p y : DV} {gv : Bool} {l : List DV} (h : y ∈ (Zaa k p gv l).2) : y ∈ l ∨ y = p := by
 unfold Zaa at h
 split at h
 ·exact .inl (List.mem_of_mem_eraseIdx h)
 ·exact ZaA h
theorem Zl0 {k : Nat} {p : DV} {gv : Bool} {l : List DV} : (Zaa k p gv l).2.length ≤ l.length := by
 unfold Zaa
 split
 ·exact List.length_eraseIdx_le _ _
 ·rw [List.length_set]; exact Nat.le_refl _
def Zg9 (G : Nat → Prop) (b : Nat) (q : Int) (s : Bool × List DV) (w : World) (e : Ending) (w' : World) : Prop := e = .returned (.tuple #[]) ∧ Fp (fun j => j = b) w w' ∧ ∃ v', RefS G w' b q s.1 v' s.2
theorem Zdi {b k base : Nat} {q : Int} {gv : Bool} {v vo : Value} {l : List DV} {p : DV} {w wr w3 : World} (hR : RefS G w b q gv v l) (hB : Below w.heap.size w wr) (hx : InvAt w p) (hxg : InvG G w p) (hxq : p.2.1 = q)
 (ho : wr.ownsRow base 106 6 vo (Zaa k p gv l).2.length (Z6 (Zaa k p gv l).2)) (hbase : w.heap.size ≤ base) (hF : Fp (fun j => j = b) wr w3) (hh : w3.heap[b]? = some (.cells #[.int .i64 q, vo, .bool (Zaa k p gv l).1] 100 (0, 0))) :
 Zg9 G b q (Zaa k p gv l) w (.returned (.tuple #[])) w3 := by
 have hsz := Nat.le_trans hB.size hF.size
 have hvg : InG G wr vo := Zb0 ho (fun k hk => hR.up k (Nat.le_trans hbase hk))
 have hig : ∀ y ∈ (Zaa k p gv l).2, InvG G wr y := fun y hy => by
  rcases ZeE hy with h | rfl
  ·exact (hR.ig y h).grow hB.size
  ·exact hxg.grow hB.size
 have hin : ∀ y ∈ (Zaa k p gv l).2, InvAt wr y := fun y hy => by
  rcases ZeE hy with h | rfl
  ·exact (hR.rows.inv y h).below hB
  ·exact hx.below hB
 refine ⟨rfl, (Fp.of_below hB).trans hF (fun _ _ h => h), vo, ⟨hh, (ZeD ho hin).fp (fun _ => hvg) hig hF (fun j _ hj e => hR.nb (e ▸ hj)), fun _ => hvg.grow hF.size, fun y hy => (hig y hy).grow hF.size, hR.nb, fun k hk => hR.up k (Nat.le_trans hsz hk), Nat.le_trans Zl0 hR.few, fun y hy => ?_⟩⟩
 rcases ZeE hy with h | rfl
 ·exact hR.qs y h
 ·exact hxq
set_option maxRecDepth 100000 in
set_option maxHeartbeats 8000000 in
theorem Zfv (b : Nat) (q : Int) (gv : Bool) (v : Value) (l : List DV) (k : Nat) (p : DV) (w : World) (h : RefS G w b q gv v l) (hk : k < l.length) (hx : InvAt w p) (hxg : InvG G w p) (hxq : p.2.1 = q) :
 Calls Tryz.prog 103 #[.pointer (some ⟨b, 0, none⟩), .int .i64 k, .agg #[.int .i64 p.1.id, .int .i64 p.1.wt, .int .i64 p.1.df, .int .i64 p.2.1, p.2.2.1, .bool p.1.gv]] w (Zg9 G b q (Zaa k p gv l) w) := by
 obtain ⟨x, qn, vl, il⟩ := p
 obtain ⟨xa, xc, hvl, -⟩ := hx.rows.form
 simp only at hvl hxq ⊢
 subst hvl
 have HX := Lib.hid hx
 have HXG := Lib.hid hxg
 have HXQ := Lib.hid hxq
 have HR := Lib.hid (h.below (box_below (o := .cells #[.int .i64 x.id, .int .i64 x.wt, .int .i64 x.df, .int .i64 qn, .slice xa il.length xc, .bool x.gv] 106)))
 have HR0 := Lib.hid h
 have hbw := Zb h.head
 obtain ⟨a, cap, rfl, -⟩ := h.rows.form
 have HF := Lib.hid h.few
 have HK := Lib.hid hk
 clear h hx hxg hxq hk
 go_enter Tryz.func103, Tryz.ntmps103
 go_wp2_with fail
 obtain ⟨w1, hw1⟩ : ∃ w1 : World, w1 = w.alloc (.cells #[.int .i64 x.id, .int .i64 x.wt, .int .i64 x.df, .int .i64 qn, .slice xa il.length xc, .bool x.gv] 106) := ⟨_, rfl⟩
 have hz1 : w1.heap.size = w.heap.size + 1 := by rw [hw1]; simp
 rw [← hw1] at HR ⊢
 have HXC := Lib.hid (show w1.heap[w.heap.size]? = some (.cells #[.int .i64 x.id, .int .i64 x.wt, .int .i64 x.df, .int .i64 qn, .slice xa il.length xc, .bool x.gv] 106 (0, 0)) by rw [hw1]; exact Zf)
 have HB1 := Lib.hid (show Below w.heap.size w w1 by rw [hw1]; exact box_below)
 have HST := Lib.hid (show (w1.alloc (.cells #[] 106)).ownsRow w1.heap.size 106 6 (.slice (some ⟨w1.heap.size, 0, none⟩) 0 0) 0 [] from Zal (Nat.le_refl _))
 have HZ1 := Lib.hid hz1
 rw [← hz1]
 clear hw1 hz1
 go_loopg [7, 6] l.length (fun g i ov wr => ∃ m : Nat, g = l.length - m ∧ i = .int .i64 m ∧ m ≤ l.length ∧ wr.ownsRow w1.heap.size 106 6 ov (Zai k (x, qn, .slice xa il.length xc, il) l m).length (Z6 (Zai k (x, qn, .slice xa il.length xc, il) l m)) ∧ Below w1.heap.size w1 wr)
 case atStart => exact ⟨0, rfl, rfl, Nat.zero_le _, by unfold Zai; rw [if_pos (Nat.zero_le _)]; exact HST.out, box_below⟩
 case round =>
  obtain ⟨m, hg, rfl, hm, ho, hb⟩ := hrel
  have HG := Lib.hid hg
  have HO := Lib.hid ho
  have HB := Lib.hid hb
  clear hg ho hb
  have hh := (HB.out.block b (Zb HR.out.head)).trans HR.out.head
  have b1 : wr.cell? ⟨b, 1, none⟩ = some (.slice a l.length cap) := Za hh rfl
  have HH := Lib.hid hh
  have hxc := (HB.out.block w.heap.size (Zb HXC.out)).trans HXC.out
  have HXC2 := Lib.hid hxc
  have hlen := ZkR (k := k) (i := m) (p := (x, qn, .slice xa il.length xc, il)) (l := l)
  have hf := HF.out
  have hc1 : w1.heap.size ≤ wr.heap.size := HB.out.size
  have hc2 : (Zai k (x, qn, .slice xa il.length xc, il) l m).length < 140737488355328 := by omega
  have hc3 : ((Zai k (x, qn, .slice xa il.length xc, il) l m).length + 1) * 64 ≤ 140737488355328 := by omega
  clear hh hxc hlen
  by_cases hlt : m < l.length
  ·have hml : (m : Int) < (l.length : Int) := by omega
   obtain ⟨p, hp⟩ : ∃ p, l[m]? = some p := ⟨_, List.getElem?_eq_getElem hlt⟩
   by_cases hmk : m = k
   ·have hne : ((m : Int) != (k : Int)) = false := by simp [hmk]
    have HBS := Lib.hid (show Zai k (x, qn, .slice xa il.length xc, il) l (m + 1) = Zai k (x, qn, .slice xa il.length xc, il) l m ++ (if il = [] then [] else [(x, qn, .slice xa il.length xc, il)]) by rw [hmk]; exact Zjy HK.out)
    have x0 : wr.cell? ⟨w.heap.size, 0, none⟩ = some (.int .i64 x.id) := Za HXC2.out rfl
    have x1 : wr.cell? ⟨w.heap.size, 1, none⟩ = some (.int .i64 x.wt) := Za HXC2.out rfl
    have x2 : wr.cell? ⟨w.heap.size, 2, none⟩ = some (.int .i64 x.df) := Za HXC2.out rfl
    have x3 : wr.cell? ⟨w.heap.size, 3, none⟩ = some (.int .i64 qn) := Za HXC2.out rfl
    have x4 : wr.cell? ⟨w.heap.size, 4, none⟩ = some (.slice xa il.length xc) := Za HXC2.out rfl
    have x5 : wr.cell? ⟨w.heap.size, 5, none⟩ = some (.bool x.gv) := Za HXC2.out rfl
    obtain ⟨D, hD⟩ : ∃ D, D = Zai k (x, qn, .slice xa il.length xc, il) l m := ⟨_, rfl⟩
    rw [← hD] at hc2 hc3 HO HBS
    clear hp hmk hD
    by_cases hxe : il = []
    ·have hgt : ¬ (0 : Int) < (il.length : Int) := by rw [hxe]; simp
     have HBS2 := Lib.hid (show Zai k (x, qn, .slice xa il.length xc, il) l (m + 1) = D by rw [HBS.out, if_pos hxe, List.append_nil])
     clear hxe
     go_wp2_with fail
     go_roundg (l.length - (m + 1))
     case rel => exact ⟨m + 1, rfl, by go_num, by omega, by rw [HBS2.out]; exact HO.out, HB.out⟩
     case measure => have := HG.out; omega
    ·have hgt : (0 : Int) < (il.length : Int) := by have := List.length_pos_iff.2 hxe; omega
     have HBS2 := Lib.hid (show Zai k (x, qn, .slice xa il.length xc, il) l (m + 1) = D ++ [(x, qn, .slice xa il.length xc, il)] by rw [HBS.out, if_neg hxe])
     clear hxe
     go_wp2_with (at_builtin; refine Zv (us := #[.int .i64 x.id, .int .i64 x.wt, .int .i64 x.df, .int .i64 qn, .slice xa il.length xc, .bool x.gv]) rfl _ _ 98 rfl w1.heap.size _ 6 64 Tryz.underlying98 Zcv rfl (by decide) u6 D.length (Z6 D) rfl HO.out rfl rfl (by simp [Value.oneCell']) ?c1 ?c2 ?c3 ?_; (case c1 => exact hc1); (case c2 => exact hc2); (case c3 => exact hc3); intro gg gcap w3 ho3 hg3 hat3)
     have HO3 := Lib.hid ho3
     have HB3 := Lib.hid (HB.out.trans ⟨hg3.os, hg3.tape, hg3.output, hg3.size, fun j hj => hg3.block j (by omega) (fun e => by have := Zl HO.out j e.symm; omega)⟩ : Below w1.heap.size w1 w3)
     clear ho3 hg3 hat3
     go_wp2_with fail
     go_roundg (l.length - (m + 1))
     case rel => exact ⟨m + 1, rfl, by go_num, by omega, by rw [HBS2.out, List.length_append, Zco]; exact HO3.out, HB3.out⟩
     case measure => have := HG.out; omega
   ·have hne : ((m : Int) != (k : Int)) = true := by simp; omega
    have HBS := Lib.hid (Zil (p := (x, qn, .slice xa il.length xc, il)) hp hmk)
    obtain ⟨g, off, cap', hv, _, c0, c1, c2, c3, c4, c5⟩ := (HR.out.rows.below (HB.out.mono (Nat.le_refl _))).at hp
    cases hv
    obtain ⟨pa, pc, hpv, -⟩ := (HR.out.rows.inv p (List.mem_of_getElem? hp)).rows.form
    rw [hpv] at c4
    have HPV := Lib.hid hpv
    obtain ⟨D, hD⟩ : ∃ D, D = Zai k (x, qn, .slice xa il.length xc, il) l m := ⟨_, rfl⟩
    rw [← hD] at hc2 hc3 HO HBS
    clear hp hmk hD hpv
    go_wp2_with (at_builtin; refine Zv (us := #[.int .i64 p.1.id, .int .i64 p.1.wt, .int .i64 p.1.df, .int .i64 p.2.1, .slice pa p.2.2.2.length pc, .bool p.1.gv]) rfl _ _ 98 rfl w1.heap.size _ 6 64 Tryz.underlying98 Zcv rfl (by decide) u6 D.length (Z6 D) rfl HO.out rfl rfl (by simp [Value.oneCell']) ?c1 ?c2 ?c3 ?_; (case c1 => exact hc1); (case c2 => exact hc2); (case c3 => exact hc3); intro gg gcap w3 ho3 hg3 hat3)
    have HO3 := Lib.hid ho3
    have HB3 := Lib.hid (HB.out.trans ⟨hg3.os, hg3.tape, hg3.output, hg3.size, fun j hj => hg3.block j (by omega) (fun e => by have := Zl HO.out j e.symm; omega)⟩ : Below w1.heap.size w1 w3)
    clear ho3 hg3 hat3
    go_wp2_with fail
    go_roundg (l.length - (m + 1))
    case rel => exact ⟨m + 1, rfl, by go_num, by omega, by rw [HBS.out, List.length_append, Zco, show encDV p = [.int .i64 p.1.id, .int .i64 p.1.wt, .int .i64 p.1.df, .int .i64 p.2.1, .slice pa p.2.2.2.length pc, .bool p.1.gv] by unfold encDV; rw [HPV.out]]; exact HO3.out, HB3.out⟩
    case measure => have := HG.out; omega
  ·obtain rfl : m = l.length := by omega
   obtain ⟨ua, uc, hu, hul, -⟩ := ZC HO.out
   have HW := Lib.hid (show wr.ownsRow w1.heap.size 106 6 u6 (Zaa k (x, qn, .slice xa il.length xc, il) gv l).2.length (Z6 (Zaa k (x, qn, .slice xa il.length xc, il) gv l).2) by rw [← ZkQ HK.out]; exact HO.out)
   obtain ⟨n, hn⟩ : ∃ n, n = (Zai k (x, qn, .slice xa il.length xc, il) l l.length).length := ⟨_, rfl⟩
   rw [← hn] at hu
   subst hu
   have HBB := Lib.hid (HB1.out.trans (HB.out.mono HB1.out.size) : Below w.heap.size w wr)
   have x4 : wr.cell? ⟨w.heap.size, 4, none⟩ = some (.slice xa il.length xc) := Za HXC2.out rfl
   have b2 : wr.cell? ⟨b, 2, none⟩ = some (.bool gv) := Za HH.out rfl
   have f1 : wr.frozen? ⟨b, 1, none⟩ = false := Zd HH.out
   have f2 : wr.frozen? ⟨b, 2, none⟩ = false := Zd HH.out
   clear hn hul hc1 hc2 hc3
   by_cases hc : k = 0 ∧ il = []
   ·have hk0 : ((k : Int) == 0) = true := by simp [hc.1]
    have hx0 : ((il.length : Int) == 0) = true := by simp [hc.2]
    have HG1 := Lib.hid (show (Zaa k (x, qn, .slice xa il.length xc, il) gv l).1 = false by unfold Zaa; rw [if_pos hc.2, if_pos hc.1])
    clear hc
    go_upto_region 11 with fail
    obtain ⟨w2, hw2⟩ : ∃ w2 : World, w2 = wr.setCell ⟨b, 2, none⟩ (.bool false) := ⟨_, rfl⟩
    have hh2 : w2.heap[b]? = some (.cells #[.int .i64 q, .slice a l.length cap, .bool false] 100 (0, 0)) := by rw [hw2]; exact Ze HH.out
    have HF2 := Lib.hid (show Fp (fun j => j = b) wr w2 by rw [hw2]; exact (Fp.refl (fun j => j = b) wr).setCell (p := ⟨b, 2, none⟩) (fun _ => rfl) _)
    rw [← hw2]
    clear hw2 b1 b2 f1 f2 x4
    have HH2 := Lib.hid hh2
    have b1 : w2.cell? ⟨b, 1, none⟩ = some (.slice a l.length cap) := Za hh2 rfl
    have f1 : w2.frozen? ⟨b, 1, none⟩ = false := Zd hh2
    clear hh2
    go_wp2_with fail
    go_end0
    exact Zdi HR0.out HBB.out HX.out HXG.out HXQ.out HW.out (by have := HZ1.out; omega) (HF2.out.setCell (p := ⟨b, 1, none⟩) (fun _ => rfl) _) (by rw [HG1.out]; exact Ze HH2.out)
   ·have HG1 := Lib.hid (show (Zaa k (x, qn, .slice xa il.length xc, il) gv l).1 = gv by
     unfold Zaa
     by_cases h1 : il = []
     ·rw [if_pos h1]
      exact if_neg (fun e => hc ⟨e, h1⟩)
     ·rw [if_neg h1])
    rcases hk0 : ((k : Int) == 0) with _ | _
    ·clear hc
     go_wp2_with fail
     go_end0
     exact Zdi HR0.out HBB.out HX.out HXG.out HXQ.out HW.out (by have := HZ1.out; omega) ((Fp.refl (fun j => j = b) wr).setCell (p := ⟨b, 1, none⟩) (fun _ => rfl) _) (by rw [HG1.out]; exact Ze HH.out)
    ·have hx0 : ((il.length : Int) == 0) = false := by
      rw [beq_eq_false_iff_ne]
      intro e
      exact hc ⟨by simpa using hk0, List.length_eq_zero_iff.1 (by omega)⟩
     clear hc
     go_wp2_with fail
     go_end0
     exact Zdi HR0.out HBB.out HX.out HXG.out HXQ.out HW.out (by have := HZ1.out; omega) ((Fp.refl (fun j => j = b) wr).setCell (p := ⟨b, 1, none⟩) (fun _ => rfl) _) (by rw [HG1.out]; exact Ze HH.out)
end Go.Proofs.YtdbjihkgafhakaaGreatDoor
/-
 ref16 (shares): a row taken out by value; Drop: the walks.
-/
namespace Go.Proofs.YtdbjihkgafhakaaGreatDoor
open Go.RowKit
variable {G : Nat → Prop}
def But (G : Nat → Prop) (bx k : Nat) : Prop := G k ∧ k ≠ bx
def dvO (p : DV) : Obj := .cells #[.int .i64 p.1.id, .int .i64 p.1.wt, .int .i64 p.1.df, .int .i64 p.2.1, p.2.2.1, .bool p.1.gv] 106 (0, 0)
theorem RefS.but {w : World} {b : Nat} {q : Int} {gv : Bool} {v : Value} {l : List DV} (h : RefS G w b q gv v l) {o : Obj} {w' : World} (hw : w' = w.alloc o) : RefS (But G w.heap.size) w' b q gv v l := by
 subst hw
 refine h.move (S := fun _ => False) (Fp.of_below box_below) (fun h => h) (fun k hk hg => ⟨⟨hg, by omega⟩, fun h => h⟩) (fun hb => h.nb hb.1) (fun k hk => ?_)
 simp at hk
 exact ⟨h.up k (by omega), by omega⟩
theorem RefS.unbut {w : World} {b bx : Nat} {q : Int} {gv : Bool} {v : Value} {l : List DV} (h : RefS (But G bx) w b q gv v l) (hb : ¬ G b) : RefS G w b q gv v l :=
 h.move (S := fun _ => False) (Fp.refl _ _) (fun h => h) (fun _ _ hg => ⟨hg.1, fun h => h⟩) hb (fun k hk => (h.up k hk).1)
theorem RefS.box {w w' : World} {b : Nat} {q : Int} {gv : Bool} {v : Value} {l : List DV} (h : RefS G w b q gv v l) {p : DV} (hp : p ∈ l) (hw : w' = w.alloc (dvO p)) : RefBt (But G w.heap.size) (.int .i64 p.1.id) (.int .i64 p.1.wt) (.int .i64 p.1.df) w' w.heap.size q p.1.gv p.2.2.1 p.2.2.2 := by
 have hq := h.qs p hp
 have hi := h.rows.inv p hp
 have hg := h.ig p hp
 subst hw
 have hsz : w.heap.size ≤ (w.alloc (dvO p)).heap.size := by simp
 refine ⟨?_, hi.rows.below box_below, fun hl k hk => ⟨⟨(hg.vg hl k hk).1, by have := (hg.vg hl k hk).2; omega⟩, Nat.lt_of_lt_of_le (hg.vg hl k hk).2 hsz⟩, fun r hr k hk => ⟨⟨(hg.ig r hr k hk).1, by have := (hg.ig r hr k hk).2; omega⟩, Nat.lt_of_lt_of_le (hg.ig r hr k hk).2 hsz⟩, fun hb => hb.2 rfl, fun k hk => ?_, hg.few, hg.fews⟩
 ·rw [← hq]
  exact Zf
 ·simp at hk
  exact ⟨h.up k (by omega), by omega⟩
theorem RefBt.invAt {ro0 ro1 ro2 : Value} {w : World} {b : Nat} {q q' : Int} {gv : Bool} {v : Value} {l : List (FRow × Value)} {x : TRow} (h : RefBt G ro0 ro1 ro2 w b q gv v l) (hx : x.rows = l.map Prod.fst) : InvAt w (x, q', v, l) := ⟨h.rows, hx.symm⟩
theorem RefBt.invG {ro0 ro1 ro2 : Value} {w : World} {b : Nat} {q q' : Int} {gv : Bool} {v : Value} {l : List (FRow × Value)} {x : TRow} (h : RefBt G ro0 ro1 ro2 w b q gv v l) : InvG G w (x, q', v, l) := ⟨h.vg, h.ig, h.few, h.fews⟩
end Go.Proofs.YtdbjihkgafhakaaGreatDoor
/-
 ref16 (shares): Push: the walks.
-/
namespace Go.Proofs.YtdbjihkgafhakaaGreatDoor
open Go.RowKit Go.Sort
variable {G : Nat → Prop}
end Go.Proofs.YtdbjihkgafhakaaGreatDoor
/-
 ref16 (shares): Push of a tenant that is new; Push in one law: the walks.
-/
namespace Go.Proofs.YtdbjihkgafhakaaGreatDoor
open Go.RowKit Go.Sort
variable {G : Nat → Prop}
end Go.Proofs.YtdbjihkgafhakaaGreatDoor
/-
 ref16 (shares): Pick: the walk.
-/
namespace Go.Proofs.YtdbjihkgafhakaaGreatDoor
open Go.RowKit Go.Sort
variable {G : Nat → Prop}
def ndT (x : TRow) : Nd := ⟨x.id, x.wt, x.df, 0, undef⟩
def Zb4 (q : Int) (gv : Bool) (x : TRow) (l2 : List FRow) : TRow := { ZaZ q gv x with gv := true, rows := l2 }
theorem ZdW (q : Int) (gv : Bool) (x : TRow) (l2 : List FRow) : ndT (Zb4 q gv x l2) = ZD q gv (ndT x) := by cases gv <;> rfl
theorem Zgl (q : Int) (gv : Bool) (x : TRow) (l2 : List FRow) : (Zb4 q gv x l2).df = (ZaZ q gv x).df := rfl
structure TRowsOk (gv : Bool) (rows : List TRow) : Prop where
 nds : NdsOk gv (rows.map ndT)
 inner : ∀ x ∈ rows, RowsOk x.gv x.rows ∧ x.rows ≠ []
theorem ShareAt.rowsOk {pre : List Int} {ρ : Roles} {w : World} {f : Nat} {q : Int} {gv : Bool} {rows : List TRow} (h : ShareAt pre ρ w f q gv rows) : TRowsOk gv rows := by
 obtain ⟨sp, v, ns, fb, a, h, rfl⟩ := h
 refine ⟨?_, fun x hx => ?_⟩
 ·have hg := h.pre'.good
  cases ns with
  | nil => trivial
  | cons n l =>
    refine ⟨hg.1, fun m hm => ?_⟩
    obtain ⟨r, hr, rfl⟩ := List.mem_map.1 hm
    obtain ⟨n', hn', rfl⟩ := List.mem_map.1 hr
    exact hg.2 n' hn'
 ·obtain ⟨n, hn, rfl⟩ := List.mem_map.1 hx
  exact h.ok n hn
theorem TRowsOk.rotate {q : Int} {gv : Bool} {x : TRow} {r : List TRow} {l2 : List FRow} (hq1 : 1 ≤ q) (hq : q ≤ 64) (h : TRowsOk gv (x :: r)) (hp : PicksR q x.gv x.rows l2) (hn : ¬ (Z5 l2).cost ≤ (ZaZ q gv x).df) : TRowsOk false (r ++ [Zb4 q gv x l2]) ∧ Zac false ((r ++ [Zb4 q gv x l2]).map ndT) < Zac gv ((x :: r).map ndT) := by
 have hi := h.inner x List.mem_cons_self
 have hpo := ZbX hp hq1 hq hi.1
 have hc := ZeR hpo (ZbC hp)
 have e : (r ++ [Zb4 q gv x l2]).map ndT = r.map ndT ++ [ZD q gv (ndT x)] := by rw [List.map_append, ← ZdW]; rfl
 have hn' : ¬ (Z5 l2).cost ≤ (ZD q gv (ndT x)).df := by rw [← ZdW (l2 := l2)]; exact hn
 refine ⟨⟨by rw [e]; exact Zeh hq1 hq hc.2 h.nds hn', fun z hz => ?_⟩, by rw [e]; exact Zcl hq1 hq hc.2 h.nds hn'⟩
 rcases List.mem_append.1 hz with hz | hz
 ·exact h.inner z (List.mem_cons_of_mem _ hz)
 ·rw [List.mem_singleton] at hz
  subst hz
  exact ⟨hpo, ZbC hp⟩
theorem Zgm {w : World} {b : Nat} {q : Int} {gv : Bool} {v : Value} {l : List DV} (h : RefS G w b q gv v l) (g' : Bool) : RefS G (w.setCell ⟨b, 2, none⟩ (.bool g')) b q g' v l := by
 have hF : Fp (fun j => j = b) w (w.setCell ⟨b, 2, none⟩ (.bool g')) := (Fp.refl (fun j => j = b) w).setCell (p := ⟨b, 2, none⟩) (fun _ => rfl) _
 exact ⟨Ze h.head, h.rows.fp h.vg h.ig hF (fun k _ hg e => h.nb (e ▸ hg)), fun hl => (h.vg hl).grow hF.size, fun p hp => (h.ig p hp).grow hF.size, h.nb, fun k hk => h.up k (Nat.le_trans hF.size hk), h.few, h.qs⟩
theorem Zj6 {ro0 ro1 ro2 : Value} {w : World} {b : Nat} {q : Int} {gv : Bool} {v : Value} {l : List (FRow × Value)} (h : RefBt G ro0 ro1 ro2 w b q gv v l) (u : Value) : RefBt G ro0 ro1 u (w.setCell ⟨b, 2, none⟩ u) b q gv v l ∧ Fp (fun j => j = b) w (w.setCell ⟨b, 2, none⟩ u) := by
 have hF : Fp (fun j => j = b) w (w.setCell ⟨b, 2, none⟩ u) := (Fp.refl (fun j => j = b) w).setCell (p := ⟨b, 2, none⟩) (fun _ => rfl) _
 exact ⟨⟨Ze h.head, h.rows.fp' hF (fun hl _ hj e => h.nv hl (e ▸ hj)) (fun p hp _ hj e => h.ni p hp (e ▸ hj)), fun hl => (h.vg hl).grow hF.size, fun p hp => (h.ig p hp).grow hF.size, h.nb, fun k hk => h.up k (Nat.le_trans hF.size hk), h.few, h.fews⟩, hF⟩
theorem RefBt.but {ro0 ro1 ro2 : Value} {w w' : World} {bx b : Nat} {q : Int} {gv : Bool} {v : Value} {l : List (FRow × Value)} (h : RefBt G ro0 ro1 ro2 w bx q gv v l) (hF : Fp (fun j => j = b) w w') (hb : ¬ bx = b) (hn : ¬ G b) : RefBt G ro0 ro1 ro2 w' bx q gv v l :=
 ⟨hF.heap h.head hb, h.rows.fp' hF (fun hl _ hj e => (h.vg hl).not hn (e ▸ hj)) (fun p hp _ hj e => (h.ig p hp).not hn (e ▸ hj)), fun hl => (h.vg hl).grow hF.size, fun p hp => (h.ig p hp).grow hF.size, h.nb, fun k hk => h.up k (Nat.le_trans hF.size hk), h.few, h.fews⟩
structure SPState (G : Nat → Prop) (b : Nat) (q : Int) (gv0 : Bool) (rows0 : List TRow) (w : World) (g : Nat) (gv : Bool) (v : Value) (l : List DV) (wr : World) : Prop where
 less : g = Zac gv ((l.map Prod.fst).map ndT)
 ref : RefS G wr b q gv v l
 ok : TRowsOk gv (l.map Prod.fst)
 same : ∀ l2, PicksT q gv (l.map Prod.fst) l2 → PicksT q gv0 rows0 l2
 fp : Fp (fun j => j = b) w wr
def ZkS (G : Nat → Prop) (b : Nat) (q : Int) (gv : Bool) (rows : List TRow) (w : World) (e : Ending) (w' : World) : Prop :=
 ∃ row rest v' l', e = .returned (.tuple #[entV (entOf row), .bool true]) ∧ PicksT q gv rows (row :: rest) ∧ RefS G w' b q true v' l' ∧ l'.map Prod.fst = row :: rest ∧ Fp (fun j => j = b) w w'
theorem Zjz (g off n cap : Nat) (W : World) : (Instr.sliceAt 98 (.slice (some ⟨g, off, none⟩) (n + 1) cap) (some (.int .i64 1)) none none).run Tryz.prog W = .ok (.slice (if cap = 1 then some ⟨g, off, none⟩ else some ⟨g, off + 6, none⟩) n (cap - 1)) W := by
 have hu := Tryz.underlying98
 have hi := Zcv
 have h1 : ¬ ((n : Int) + 1 < 1) := by omega
 simp [Instr.sliceAt, go_sem, h1]
theorem Zl1 {w : World} {v : Value} {p : DV} {r : List DV} (h : DRowsAt w v (p :: r)) : ∃ tv, (∀ W, (Instr.sliceAt 98 v (some (.int .i64 1)) none none).run Tryz.prog W = .ok tv W) ∧ SrcAt 6 w tv r.length (Z6 r) := by
 obtain ⟨⟨a, cap, rfl, hle, hc⟩, _⟩ := h
 obtain ⟨g, off, rfl, _⟩ := hc 0 _ rfl
 rw [List.length_cons] at hle
 refine ⟨_, fun W => Zjz g off r.length cap W, ?_⟩
 have hat : ∀ (j : Nat) u, (Z6 r)[j]? = some u → w.cell? ⟨g, off + 6 + j, none⟩ = some u := fun j u hu => by
  obtain ⟨g', off', he, h0⟩ := hc (6 + j) u (by
   have e : Z6 (p :: r) = encDV p ++ Z6 r := rfl
   rw [e, List.getElem?_append_right (by rw [Zcu]; omega), Zcu, show 6 + j - 6 = j by omega]
   exact hu)
  cases he
  rw [Nat.add_assoc]
  exact h0
 by_cases h1 : cap = 1
 ·have hr : r = [] := List.length_eq_zero_iff.1 (by omega)
  subst hr
  exact ⟨_, _, rfl, rfl, fun j u hu => by simp [Z6] at hu⟩
 ·rw [if_neg h1]
  exact ⟨_, _, rfl, Zgk r, fun j u hu => ⟨g, off + 6, rfl, hat j u hu⟩⟩
theorem ZbM {w4 wa : World} {b : Nat} {q : Int} {gv : Bool} {v2 v3 : Value} {p : DV} {r : List DV} (hR : RefS G w4 b q gv v2 (p :: r)) (hL : Laid2 106 6 w4 v3 (r.length + 1) (Z6 r ++ encDV p) wa) :
 RefS G (wa.setCell ⟨b, 1, none⟩ v3) b q gv v3 (r ++ [p]) ∧ Fp (fun j => j = b) w4 (wa.setCell ⟨b, 1, none⟩ v3) := by
 have hbw := Zb hR.head
 have hF : Fp (fun j => j = b) wa (wa.setCell ⟨b, 1, none⟩ v3) := (Fp.refl (fun j => j = b) wa).setCell (p := ⟨b, 1, none⟩) (fun _ => rfl) _
 have hsz := Nat.le_trans hL.below.size hF.size
 have hvg : InG G wa v3 := Zb0 hL.own (fun k hk => hR.up k hk)
 have hm : ∀ y ∈ r ++ [p], y ∈ p :: r := fun y hy => by
  rcases List.mem_append.1 hy with hy | hy
  ·exact List.mem_cons_of_mem _ hy
  ·rw [List.mem_singleton] at hy
   subst hy
   exact List.mem_cons_self
 have hig : ∀ y ∈ r ++ [p], InvG G wa y := fun y hy => (hR.ig y (hm y hy)).grow hL.below.size
 have hin : ∀ y ∈ r ++ [p], InvAt wa y := fun y hy => (hR.rows.inv y (hm y hy)).below hL.below
 refine ⟨⟨Ze ((hL.below.block b hbw).trans hR.head), ?_, fun _ => hvg.grow hF.size, fun y hy => (hig y hy).grow hF.size, hR.nb, fun k hk => hR.up k (Nat.le_trans hsz hk), by have := hR.few; simp at this ⊢; omega, fun y hy => hR.qs y (hm y hy)⟩, (Fp.of_below hL.below).trans hF (fun _ _ h => h)⟩
 exact (ZeD (l := r ++ [p]) (by rw [List.length_append, Zco]; exact hL.own) hin).fp (fun _ => hvg) hig hF (fun j _ hj e => hR.nb (e ▸ hj))
set_option maxRecDepth 100000 in
set_option maxHeartbeats 16000000 in
theorem Zim (b : Nat) (q : Int) (gv : Bool) (v : Value) (l : List DV) (w : World) (h : RefS G w b q gv v l) (hne : l ≠ []) (hq1 : 1 ≤ q) (hq : q ≤ 64) (hok : TRowsOk gv (l.map Prod.fst)) :
 Calls Tryz.prog 105 #[.pointer (some ⟨b, 0, none⟩)] w (ZkS G b q gv (l.map Prod.fst) w) := by
 have HR := Lib.hid h
 have HQ1 := Lib.hid hq1
 have HQ := Lib.hid hq
 have HOK := Lib.hid hok
 obtain ⟨a, cap, rfl, -⟩ := h.rows.form
 have hz : ((l.length : Int) == 0) = false := by
  rw [beq_eq_false_iff_ne]
  have := List.length_pos_iff.2 hne
  omega
 have HNE := Lib.hid hne
 clear h hok hq1 hq hne
 go_enter Tryz.func105, Tryz.ntmps105
 go_upto_region 1 with fail
 obtain ⟨w1, hw1⟩ : ∃ w1 : World, w1 = w.alloc (.cells #[.string ⟨#[]⟩, .int .i64 0, .int .i64 0, .int .i64 0, .int .i64 0, .int .i64 0, .int .i64 0, .int .i64 0] 25) := ⟨_, rfl⟩
 obtain ⟨eb, heb⟩ : ∃ eb : Nat, eb = w.heap.size := ⟨_, rfl⟩
 rw [← hw1, ← heb]
 have HB1 := Lib.hid (show Below w.heap.size w w1 by rw [hw1]; exact box_below)
 have HE1 := Lib.hid (show w1.heap[eb]? = some (.cells #[.string ⟨#[]⟩, .int .i64 0, .int .i64 0, .int .i64 0, .int .i64 0, .int .i64 0, .int .i64 0, .int .i64 0] 25 (0, 0)) by rw [hw1, heb]; exact Zf)
 have HEB := Lib.hid heb
 have HBE := Lib.hid (show ¬ eb = b by have := Zb HR.out.head; omega)
 have HST := Lib.hid (show SPState (But G eb) b q gv (l.map Prod.fst) w1 (Zac gv ((l.map Prod.fst).map ndT)) gv (.slice a l.length cap) l w1 from ⟨rfl, by rw [heb]; exact HR.out.but hw1, HOK.out, fun _ h => h, Fp.refl _ _⟩)
 have b1 : w1.cell? ⟨b, 1, none⟩ = some (.slice a l.length cap) := Za (HR.out.below HB1.out).head rfl
 clear hw1 heb
 go_wp2_with fail
 go_loopg [] (Zac gv ((l.map Prod.fst).map ndT)) (fun g wr => ∃ gv' v' l', l' ≠ [] ∧ SPState (But G eb) b q gv (l.map Prod.fst) w1 g gv' v' l' wr)
 case atStart => exact ⟨gv, _, l, HNE.out, HST.out⟩
 case round =>
  obtain ⟨gv', v', l', hne', hS⟩ := hrel
  obtain ⟨p, r, rfl⟩ : ∃ p r, l' = p :: r := by
   cases l' with
   | nil => exact absurd rfl hne'
   | cons p r => exact ⟨p, r, rfl⟩
  have HS := Lib.hid hS
  clear hS hne' b1 hz
  have HER := Lib.hid (HS.out.fp.heap HE1.out HBE.out)
  obtain ⟨gb, off, cap', hv, hcap, c0, c1, c2, c3, c4, c5⟩ := HS.out.ref.rows.at (k := 0) (p := p) rfl
  obtain ⟨pa, pc, hpv, -⟩ := (HS.out.ref.rows.inv p List.mem_cons_self).rows.form
  have HV := Lib.hid hv
  have HPV := Lib.hid hpv
  rw [hpv] at c4
  simp only [Nat.zero_mul, Nat.add_zero] at c0 c1 c2 c3 c4 c5
  have b1 : wr.cell? ⟨b, 1, none⟩ = some (.slice (some ⟨gb, off, none⟩) (r.length + 1) cap') := by rw [← List.length_cons (a := p), ← hv]; exact Za HS.out.ref.head rfl
  clear hv hpv
  go_upto_region 4 with fail
  obtain ⟨w2, hw2⟩ : ∃ w2 : World, w2 = wr.alloc (.cells #[.int .i64 p.1.id, .int .i64 p.1.wt, .int .i64 p.1.df, .int .i64 p.2.1, .slice pa p.2.2.2.length pc, .bool p.1.gv] 106) := ⟨_, rfl⟩
  obtain ⟨bx, hbx⟩ : ∃ bx : Nat, bx = wr.heap.size := ⟨_, rfl⟩
  rw [← hw2, ← hbx]
  have hwo : w2 = wr.alloc (dvO p) := by rw [hw2]; unfold dvO; rw [HPV.out]
  have hRB : RefBt (But (But G eb) bx) (.int .i64 p.1.id) (.int .i64 p.1.wt) (.int .i64 p.1.df) w2 bx q p.1.gv p.2.2.1 p.2.2.2 := by rw [hbx]; exact HS.out.ref.box List.mem_cons_self hwo
  have hRS : RefS (But (But G eb) bx) w2 b q gv' v' (p :: r) := by rw [hbx]; exact HS.out.ref.but hwo
  have HB2 := Lib.hid (show Below wr.heap.size wr w2 by rw [hw2]; exact box_below)
  have HBX := Lib.hid (show wr.heap.size ≤ bx by rw [hbx]; exact Nat.le_refl _)
  have HBB := Lib.hid (show ¬ b = bx by have := Zb HS.out.ref.head; omega)
  have HF2 := Lib.hid (HS.out.fp.then_below HB2.out)
  have HRB := Lib.hid hRB
  have HRS := Lib.hid hRS
  clear hw2 hbx hwo hRB hRS c0 c1 c2 c3 c4 c5 b1
  have b2 : w2.cell? ⟨b, 2, none⟩ = some (.bool gv') := Za HRS.out.head rfl
  go_upto_if 23 with fail
  go_cut [4] (fun s wx => s = .pointer (some ⟨bx, 0, none⟩) ∧ RefS (But (But G eb) bx) wx b q true v' (p :: r) ∧ RefBt (But (But G eb) bx) (.int .i64 p.1.id) (.int .i64 p.1.wt) (.int .i64 (ZaZ q gv' p.1).df) wx bx q p.1.gv p.2.2.1 p.2.2.2 ∧ Fp (fun j => j = b) w1 wx)
  case first =>
   have HG := Lib.hid HS.out.ok.nds
   rcases gv' with _ | _
   ·have x1 : w2.cell? ⟨bx, 1, none⟩ = some (.int .i64 p.1.wt) := Za HRB.out.head rfl
    have x2 : w2.cell? ⟨bx, 2, none⟩ = some (.int .i64 p.1.df) := Za HRB.out.head rfl
    have b0 : w2.cell? ⟨b, 0, none⟩ = some (.int .i64 q) := Za HRS.out.head rfl
    have f2 : w2.frozen? ⟨bx, 2, none⟩ = false := Zd HRB.out.head
    have hg := HG.out.1
    have hm := Zcr HQ1.out HQ.out hg.1 hg.2.1
    have hw1 : wrap64 (q * p.1.wt) = q * p.1.wt := by have e : (ndT p.1).wt = p.1.wt := rfl; rw [e] at hm; unfold wrap64; omega
    have hw2 : wrap64 (p.1.df + q * p.1.wt) = p.1.df + q * p.1.wt := by
     have e : (ndT p.1).wt = p.1.wt := rfl
     rw [e] at hm
     have h3 : 0 ≤ p.1.df := hg.2.2.1
     have h4 : p.1.df ≤ if false = true then 2112 else 1088 := hg.2.2.2
     simp at h4
     unfold wrap64
     omega
    clear hg hm
    go_upto_region 5 with fail
    go_region
    clear x1 x2 b0 f2 b2
    go_upto_region 6 with fail
    obtain ⟨w3, hw3⟩ : ∃ w3 : World, w3 = (w2.setCell ⟨bx, 2, none⟩ (.int .i64 (p.1.df + q * p.1.wt))).drew := ⟨_, rfl⟩
    rw [← hw3]
    obtain ⟨hRB3, hF3⟩ := Zj6 HRB.out (.int .i64 (p.1.df + q * p.1.wt))
    have hRS3 := HRS.out.fp hF3 HBB.out (fun k _ hg => hg.2)
    have hRB3 := hRB3.below (w' := w3) (by rw [hw3]; exact ⟨rfl, rfl, rfl, Nat.le_refl _, fun _ _ => rfl⟩)
    have hRS3 := hRS3.below (w' := w3) (by rw [hw3]; exact ⟨rfl, rfl, rfl, Nat.le_refl _, fun _ _ => rfl⟩)
    have hF3 : Fp (fun j => j = bx) w2 w3 := by rw [hw3]; exact hF3.drew
    have HF3 := Lib.hid (show Fp (fun j => j = b) w1 w3 from HF2.out.trans hF3 (fun j hj e => by have := HBX.out; have := HS.out.fp.size; omega))
    have HRB3 := Lib.hid hRB3
    have HRS3 := Lib.hid hRS3
    have b2 : w3.cell? ⟨b, 2, none⟩ = some (.bool false) := Za hRS3.head rfl
    have f2 : w3.frozen? ⟨b, 2, none⟩ = false := Zd hRS3.head
    clear hw1 hw2 hw3 hF3 hRB3 hRS3
    go_wp2_with fail
    go_meet
    case rel =>
     have hF : Fp (fun j => j = b) w3 (w3.setCell ⟨b, 2, none⟩ (.bool true)) := (Fp.refl (fun j => j = b) w3).setCell (p := ⟨b, 2, none⟩) (fun _ => rfl) _
     exact ⟨rfl, Zgm HRS3.out true, HRB3.out.but hF (fun e => HBB.out e.symm) HRS3.out.nb, HF3.out.trans hF (fun _ _ h => h)⟩
   ·go_wp2_with fail
    go_meet
    case rel => exact ⟨rfl, HRS.out, HRB.out, HF2.out⟩
  case rest =>
   obtain ⟨rfl, hRS3, hRB3, hF3⟩ := hcut
   have HRS3 := Lib.hid hRS3
   have HRB3 := Lib.hid hRB3
   have HF3 := Lib.hid hF3
   have hPI := (HS.out.ref.rows.inv p List.mem_cons_self).same
   have hin := HS.out.ok.inner p.1 List.mem_cons_self
   have hne2 : p.2.2.2 ≠ [] := fun e => hin.2 (by rw [← hPI, e]; rfl)
   have HPI := Lib.hid hPI
   have HNE2 := Lib.hid hne2
   have HIN := Lib.hid hin
   clear hRS3 hRB3 hF3 hPI hne2 hin b2
   go_wp2_with fail
   refine (Zd9 bx q p.1.gv _ p.2.2.2 _ HRB3.out HNE2.out HQ1.out HQ.out (by rw [HPI.out]; exact HIN.out.1)).mono ?_
   rintro e w3 ⟨rfl, v3, l3, hRB4, hP4, hF4⟩
   rw [HPI.out] at hP4
   obtain ⟨x', hx'⟩ : ∃ x', x' = Zb4 q gv' p.1 (l3.map Prod.fst) := ⟨_, rfl⟩
   obtain ⟨a3, cp3, hv3, -⟩ := hRB4.rows.form
   subst hv3
   have e0 : x'.id = p.1.id := by rw [hx']; cases gv' <;> rfl
   have e1 : x'.wt = p.1.wt := by rw [hx']; cases gv' <;> rfl
   have e2 : x'.df = (ZaZ q gv' p.1).df := by rw [hx']; rfl
   have e3 : x'.gv = true := by rw [hx']; rfl
   have e4 : l3.map Prod.fst = x'.rows := by rw [hx']; rfl
   rw [← e0, ← e1, ← e2] at hRB4
   have HRS4 := Lib.hid (HRS3.out.fp hF4 HBB.out (fun k _ hg => hg.2))
   have HF4 := Lib.hid (show Fp (fun j => j = b) w1 w3 from HF3.out.trans hF4 (fun j hj e => by have := HBX.out; have := HS.out.fp.size; omega))
   have HRB4 := Lib.hid hRB4
   have HP4 := Lib.hid hP4
   have HX' := Lib.hid hx'
   have HE3 := Lib.hid e3
   have HE4 := Lib.hid e4
   have y0 : w3.cell? ⟨bx, 0, none⟩ = some (.int .i64 x'.id) := Za hRB4.head rfl
   have y1 : w3.cell? ⟨bx, 1, none⟩ = some (.int .i64 x'.wt) := Za hRB4.head rfl
   have y2 : w3.cell? ⟨bx, 2, none⟩ = some (.int .i64 x'.df) := Za hRB4.head rfl
   have y3 : w3.cell? ⟨bx, 3, none⟩ = some (.int .i64 q) := Za hRB4.head rfl
   have y4 : w3.cell? ⟨bx, 4, none⟩ = some (.slice a3 l3.length cp3) := Za hRB4.head rfl
   have y5 : w3.cell? ⟨bx, 5, none⟩ = some (.bool true) := Za hRB4.head rfl
   clear hRB4 hP4 hF4 hx' e0 e1 e2 e3 e4
   go_wp2_with fail
   have hwith := Zfv b q true v' (p :: r) 0 (x', q, .slice a3 l3.length cp3, l3) w3 HRS4.out (by simp) (HRB4.out.invAt HE4.out.symm) HRB4.out.invG rfl
   simp only [HE3.out] at hwith
   refine hwith.mono ?_
   rintro e w4 ⟨rfl, hF5, v5, hR5⟩
   have hl3 : l3 ≠ [] := fun e => ZbC HP4.out (by rw [e]; rfl)
   have hwv : Zaa 0 (x', q, Value.slice a3 l3.length cp3, l3) true (p :: r) = (true, (x', q, .slice a3 l3.length cp3, l3) :: r) := by
    unfold Zaa
    rw [if_neg (show ¬ l3 = [] from hl3)]
    rfl
   rw [hwv] at hR5
   have HRB5 := Lib.hid (HRB4.out.but hF5 (fun e => HBB.out e.symm) HRS4.out.nb)
   have HRS5 := Lib.hid hR5
   have HF5 := Lib.hid (HF4.out.trans hF5 (fun _ _ h => h))
   obtain ⟨⟨f0, u0⟩, l4, rfl⟩ : ∃ f l', l3 = f :: l' := by
    cases l3 with
    | nil => exact absurd rfl hl3
    | cons f l' => exact ⟨f, l', rfl⟩
   obtain ⟨g3, o3, c3, hv3, -, q0, q1, q2, q3⟩ := HRB5.out.rows.at (k := 0) rfl
   simp only [Nat.zero_mul, Nat.add_zero] at q0 q1 q2 q3
   cases hv3
   obtain ⟨au, cu, hu⟩ := ZN (HRB5.out.rows.its _ List.mem_cons_self)
   have hu' : u0 = .slice au f0.its.length cu := hu
   subst hu'
   clear hu
   have z4 : w4.cell? ⟨bx, 4, none⟩ = some (.slice (some ⟨g3, o3, none⟩) (l4.length + 1) cp3) := Za HRB5.out.head rfl
   clear y0 y1 y2 y3 y4 y5 hF5 hR5 hwv hl3 hwith
   go_upto_region 10 with fail
   obtain ⟨w5, hw5⟩ : ∃ w5 : World, w5 = w4.alloc (.cells #[.int .i64 f0.id, .int .i64 f0.wt, .int .i64 f0.df, .slice au f0.its.length cu] 157) := ⟨_, rfl⟩
   obtain ⟨fb, hfb⟩ : ∃ fb : Nat, fb = w4.heap.size := ⟨_, rfl⟩
   rw [← hw5, ← hfb]
   have HB5 := Lib.hid (show Below w4.heap.size w4 w5 by rw [hw5]; exact box_below)
   have hfh : w5.heap[fb]? = some (.cells #[.int .i64 f0.id, .int .i64 f0.wt, .int .i64 f0.df, .slice au f0.its.length cu] 157 (0, 0)) := by rw [hw5, hfb]; exact Zf
   have hokp := ZbX HP4.out HQ1.out HQ.out HIN.out.1
   obtain ⟨y, ys, hy, hyc⟩ := hokp.full f0 (by simp)
   have hit := (HRB5.out.below HB5.out).rows.its _ List.mem_cons_self
   simp only at hit
   obtain ⟨gi, offi, ci, hpv, i0, i1⟩ := ZbA hit (k := 0) (x := y) (by rw [hy]; rfl)
   simp only [Nat.zero_mul, Nat.add_zero] at i0 i1
   cases hpv
   have HRB6 := Lib.hid (HRB5.out.below HB5.out)
   have HRS6 := Lib.hid (HRS5.out.below HB5.out)
   have HF6 := Lib.hid (HF5.out.then_below HB5.out)
   have HFH := Lib.hid hfh
   have HY := Lib.hid hy
   have HI0 := Lib.hid i0
   have HI1 := Lib.hid i1
   have hpos : (0 : Int) < (f0.its.length : Int) := by rw [hy]; simp
   have HPOS := Lib.hid hpos
   have x2 : w5.cell? ⟨bx, 2, none⟩ = some (.int .i64 x'.df) := Za HRB6.out.head rfl
   have k3 : w5.cell? ⟨fb, 3, none⟩ = some (.slice (some ⟨gi, offi, none⟩) f0.its.length cu) := Za hfh rfl
   have hhe : Z5 ((((f0, Value.slice (some ⟨gi, offi, none⟩) f0.its.length cu) :: l4)).map Prod.fst) = y := by
    show f0.its.headD ⟨0, 0⟩ = y
    rw [hy]
    rfl
   have HHE := Lib.hid hhe
   clear hw5 hfb hfh hokp hy hyc hit i0 q0 q1 q2 q3 z4 hhe
   by_cases hle : y.cost ≤ x'.df
   ·have hd : decide (y.cost ≤ x'.df) = true := decide_eq_true hle
    have HLE := Lib.hid hle
    clear hle
    go_quiet (fail)
    go_upto_region 11 with fail
    obtain ⟨w6, hw6⟩ : ∃ w6 : World, w6 = w5.drewN nq := ⟨_, rfl⟩
    rw [← hw6]
    have hbel : Below w5.heap.size w5 w6 := by rw [hw6]; exact ZO (Below.refl _ _) nq
    have hrb := HRB6.out.below hbel
    have HRS7 := Lib.hid (HRS6.out.below hbel)
    have HF7 := Lib.hid (HF6.out.then_below hbel)
    have hfh := (hbel.block fb (Zb HFH.out)).trans HFH.out
    have heb := HF7.out.heap HE1.out HBE.out
    have HEH := Lib.hid heb
    have y0 : w6.cell? ⟨bx, 0, none⟩ = some (.int .i64 x'.id) := Za hrb.head rfl
    have y1 : w6.cell? ⟨bx, 1, none⟩ = some (.int .i64 x'.wt) := Za hrb.head rfl
    have k0 : w6.cell? ⟨fb, 0, none⟩ = some (.int .i64 f0.id) := Za hfh rfl
    have k1 : w6.cell? ⟨fb, 1, none⟩ = some (.int .i64 f0.wt) := Za hfh rfl
    have k3 : w6.cell? ⟨fb, 3, none⟩ = some (.slice (some ⟨gi, offi, none⟩) f0.its.length cu) := Za hfh rfl
    have i0 := Zc hbel HI0.out
    have i1 := Zc hbel HI1.out
    clear hw6 hbel hrb hfh heb x2 hd
    have hposN : 0 < f0.its.length := by have := HPOS.out; omega
    have hposM : ¬ ((f0.its.length : Int) ≤ 0) := by omega
    have hposE : ¬ (f0.its = []) := by intro e; rw [e] at hposN; simp at hposN
    go_still_tail 19, (by kernel_rfl)
    clear y0 y1 k0 k1 k3 i0 i1 hposN hposM hposE hpos
    obtain ⟨w7, hw7⟩ : ∃ w7 : World, w7 = w6.drew := ⟨_, rfl⟩
    change wpList _ _ _ _ _ w6.drew
    rw [← hw7]
    have HE7 := Lib.hid (show w7.heap[eb]? = some (.cells #[.string ⟨#[]⟩, .int .i64 0, .int .i64 0, .int .i64 0, .int .i64 0, .int .i64 0, .int .i64 0, .int .i64 0] 25 (0, 0)) by rw [hw7]; exact HEH.out)
    have HB7 := Lib.hid (show Below w6.heap.size w6 w7 by rw [hw7]; exact ⟨rfl, rfl, rfl, Nat.le_refl _, fun _ _ => rfl⟩)
    clear hw7
    go_wp2_with (refine wpList_store_row rfl 25 _ _ rfl eb #[.string ⟨#[]⟩, .int .i64 0, .int .i64 x'.id, .int .i64 x'.wt, .int .i64 f0.id, .int .i64 f0.wt, .int .i64 y.id, .int .i64 y.cost] rfl rfl 25 _ HE7.out (ZZ (Ent.mk ⟨#[]⟩ 0 x'.id x'.wt f0.id f0.wt y.id y.cost)) rfl (ZaJ (Ent.mk ⟨#[]⟩ 0 x'.id x'.wt f0.id f0.wt y.id y.cost)) ?_)
    refine bodyPost_ret (v := .tuple #[entV (Ent.mk ⟨#[]⟩ 0 x'.id x'.wt f0.id f0.wt y.id y.cost), .bool true]) (ZL Tryz.results105 rfl rfl (setRow_heap _ eb _ _ _ _ HE7.out) Tryz.underlying25 rfl (ZZ (Ent.mk ⟨#[]⟩ 0 x'.id x'.wt f0.id f0.wt y.id y.cost))) rfl ?_
    have hs := HEB.out
    have hnb := HS.out.ref.nb
    have hS := (Fp.refl (fun k => k = eb) w7).setRow (g := eb) (fun _ => rfl) (cells := entC (Ent.mk ⟨#[]⟩ 0 x'.id x'.wt f0.id f0.wt y.id y.cost))
    have hR8 := ((((HRS7.out.below HB7.out).unbut hnb).fp hS (fun e => HBE.out e.symm) (fun k _ hg => hg.2)).unbut HR.out.nb)
    have hrow := HX'.out
    have hle := HLE.out
    have hpk : PicksR q p.1.gv p.1.rows (((f0, Value.slice (some ⟨gi, offi, none⟩) f0.its.length cu) :: l4).map Prod.fst) := HP4.out
    refine ⟨x', r.map Prod.fst, v5, _, ?_, ?_, hR8, rfl, ?_⟩
    ·have e1 : Ent.mk ⟨#[]⟩ 0 x'.id x'.wt f0.id f0.wt y.id y.cost = entOf x' := by
      have h1 : x'.rows = f0 :: l4.map Prod.fst := HE4.out.symm
      unfold entOf
      rw [h1, show Z5 (f0 :: l4.map Prod.fst) = y from HHE.out]
      rfl
     rw [e1]
    ·refine HS.out.same _ ?_
     rw [hrow, Zgl] at hle
     rw [hrow]
     refine .grant hpk ?_
     rw [HHE.out]
     exact hle
    ·exact ((Fp.of_below HB1.out).trans (HF7.out.then_below HB7.out) (fun _ _ h => h)).setRow (fun hk => by omega)
   ·have hd : decide (y.cost ≤ x'.df) = false := decide_eq_false hle
    have HLE := Lib.hid hle
    clear hle
    go_quiet (fail)
    go_upto_region 12 with fail
    obtain ⟨w6, hw6⟩ : ∃ w6 : World, w6 = w5.drewN nq := ⟨_, rfl⟩
    rw [← hw6]
    have hbel : Below w5.heap.size w5 w6 := by rw [hw6]; exact ZO (Below.refl _ _) nq
    have hR7 := HRS6.out.below hbel
    have hX7 := HRB6.out.below hbel
    have HF7 := Lib.hid (HF6.out.then_below hbel)
    obtain ⟨tv, hsl, hsrc⟩ := Zl1 hR7.rows
    obtain ⟨i0', hi0, hz0, hz1', hz2'⟩ := info_parts Zcv
    have hrl : r.length < 1000000 := by have := hR7.few; simp at this; omega
    obtain ⟨⟨v1', w7, ga, ca, wa, r1, r2, hLa, hba⟩, ⟨v2', w8, gb', cb, wb, r3, r4, hLb, hbb⟩, ⟨v3', w9, gc, cc, wcc, r5, r6, hLc, hbc⟩⟩ :=
     Zdn (P := Tryz.prog) w6 98 98 98 106 i0' _ 6 64 Tryz.underlying98 hi0 hz0 hz1' hz2' rfl (by decide) (v := tv) (n := r.length) (xs := Z6 r) (us := encDV (x', q, .slice (some ⟨g3, o3, none⟩) (l4.length + 1) cp3, (f0, .slice (some ⟨gi, offi, none⟩) f0.its.length cu) :: l4)) hsrc (ZkO (w := w6) (fun p' hp' => hR7.rows.inv p' (List.mem_cons_of_mem _ hp'))) rfl (by simp [encDV, Value.oneCell']) hrl (by omega)
    have HR7 := Lib.hid hR7
    have HX7 := Lib.hid hX7
    have HLA := Lib.hid hLa
    have HLB := Lib.hid hLb
    have HLC := Lib.hid hLc
    have hbw4 := Zb hR7.head
    have hxw4 := Zb hX7.head
    have b1 : w6.cell? ⟨b, 1, none⟩ = some v5 := Za hR7.head rfl
    have q0 : w6.cell? ⟨bx, 0, none⟩ = some (.int .i64 x'.id) := Za hX7.head rfl
    have q1 : w6.cell? ⟨bx, 1, none⟩ = some (.int .i64 x'.wt) := Za hX7.head rfl
    have q2 : w6.cell? ⟨bx, 2, none⟩ = some (.int .i64 x'.df) := Za hX7.head rfl
    have q3 : w6.cell? ⟨bx, 3, none⟩ = some (.int .i64 q) := Za hX7.head rfl
    have q4 : w6.cell? ⟨bx, 4, none⟩ = some (.slice (some ⟨g3, o3, none⟩) (l4.length + 1) cp3) := Za hX7.head rfl
    have q5 : w6.cell? ⟨bx, 5, none⟩ = some (.bool true) := Za hX7.head rfl
    have q0a := Zc hba q0
    have q1a := Zc hba q1
    have q2a := Zc hba q2
    have q3a := Zc hba q3
    have q4a := Zc hba q4
    have q5a := Zc hba q5
    have q0b := Zc hbb q0
    have q1b := Zc hbb q1
    have q2b := Zc hbb q2
    have q3b := Zc hbb q3
    have q4b := Zc hbb q4
    have q5b := Zc hbb q5
    have q0c := Zc hbc q0
    have q1c := Zc hbc q1
    have q2c := Zc hbc q2
    have q3c := Zc hbc q3
    have q4c := Zc hbc q4
    have q5c := Zc hbc q5
    have hha := (hLa.below.block b hbw4).trans hR7.head
    have hhb := (hLb.below.block b hbw4).trans hR7.head
    have hhc := (hLc.below.block b hbw4).trans hR7.head
    have ka1 : wa.cell? ⟨b, 1, none⟩ = some v5 := Za hha rfl
    have kb1 : wb.cell? ⟨b, 1, none⟩ = some v5 := Za hhb rfl
    have kc1 : wcc.cell? ⟨b, 1, none⟩ = some v5 := Za hhc rfl
    have fa1 : wa.frozen? ⟨b, 1, none⟩ = false := Zd hha
    have fb1 : wb.frozen? ⟨b, 1, none⟩ = false := Zd hhb
    have fc1 : wcc.frozen? ⟨b, 1, none⟩ = false := Zd hhc
    clear hba hbb hbc hLa hLb hLc hi0 hz0 hz1' hz2' hha hhb hhc hR7 hX7 hw6 hbel hsrc i1 k3 x2 hpos hrl hd
    simp only [encDV, HE3.out] at r2 r3 r4 r5 r6
    simp [go_sem] at r1 r2 r3 r4 r5 r6 hsl
    go_cut [] (fun wx => (∃ v3, RefS (But (But G eb) bx) wx b q true v3 (r ++ [(x', q, .slice (some ⟨g3, o3, none⟩) (l4.length + 1) cp3, (f0, .slice (some ⟨gi, offi, none⟩) f0.its.length cu) :: l4)])) ∧ Fp (fun j => j = b) w1 wx)
    case first =>
     go_region
     all_goals
      clear r1 r2 r3 r4 r5 r6
      go_wp2_with fail
      go_meet
     all_goals
      first
      | exact ⟨⟨_, (ZbM HR7.out HLA.out).1⟩, HF7.out.trans (ZbM HR7.out HLA.out).2 (fun _ _ h => h)⟩
      | exact ⟨⟨_, (ZbM HR7.out HLB.out).1⟩, HF7.out.trans (ZbM HR7.out HLB.out).2 (fun _ _ h => h)⟩
      | exact ⟨⟨_, (ZbM HR7.out HLC.out).1⟩, HF7.out.trans (ZbM HR7.out HLC.out).2 (fun _ _ h => h)⟩
    case rest =>
     obtain ⟨⟨v6, hR8⟩, hF8⟩ := hcut
     have HR8 := Lib.hid hR8
     have HF8 := Lib.hid hF8
     have hno : ¬ (Z5 (((f0, Value.slice (some ⟨gi, offi, none⟩) f0.its.length cu) :: l4).map Prod.fst)).cost ≤ (ZaZ q gv' p.1).df := by
      rw [HHE.out]
      have h := HLE.out
      rw [HX'.out, Zgl] at h
      exact h
     have hpk : PicksR q p.1.gv p.1.rows (((f0, Value.slice (some ⟨gi, offi, none⟩) f0.its.length cu) :: l4).map Prod.fst) := HP4.out
     have hrot := TRowsOk.rotate HQ1.out HQ.out HS.out.ok hpk hno
     have HNO := Lib.hid hno
     have HROT := Lib.hid hrot
     have HPK := Lib.hid hpk
     have hmap : (r ++ [(x', q, Value.slice (some ⟨g3, o3, none⟩) (l4.length + 1) cp3, (f0, Value.slice (some ⟨gi, offi, none⟩) f0.its.length cu) :: l4)]).map Prod.fst = r.map Prod.fst ++ [Zb4 q gv' p.1 (((f0, Value.slice (some ⟨gi, offi, none⟩) f0.its.length cu) :: l4).map Prod.fst)] := by rw [List.map_append, ← HX'.out]; rfl
     have HMAP := Lib.hid hmap
     have b2 : wc.cell? ⟨b, 2, none⟩ = some (.bool true) := Za hR8.head rfl
     have f2 : wc.frozen? ⟨b, 2, none⟩ = false := Zd hR8.head
     clear hR8 hF8 hno hpk hrot hmap hsl b1 q0 q1 q2 q3 q4 q5 q0a q1a q2a q3a q4a q5a q0b q1b q2b q3b q4b q5b q0c q1c q2c q3c q4c q5c ka1 kb1 kc1 fa1 fb1 fc1 r1 r2 r3 r4 r5 r6
     go_wp2_with fail
     go_roundg (Zac false (((r ++ [(x', q, Value.slice (some ⟨g3, o3, none⟩) (l4.length + 1) cp3, (f0, Value.slice (some ⟨gi, offi, none⟩) f0.its.length cu) :: l4)]).map Prod.fst).map ndT))
     case rel =>
      refine ⟨false, v6, _, by simp, ⟨rfl, Zgm (HR8.out.unbut HS.out.ref.nb) false, ?_, fun l2 h2 => HS.out.same l2 (.rotate HPK.out (Int.not_le.2 HNO.out) ?_), HF8.out.setCell (p := ⟨b, 2, none⟩) (fun _ => rfl) _⟩⟩
      ·rw [HMAP.out]
       exact HROT.out.1
      ·rw [HMAP.out] at h2
       exact h2
     case measure =>
      rw [HS.out.less, HMAP.out]
      exact HROT.out.2
end Go.Proofs.YtdbjihkgafhakaaGreatDoor
/-
 ref16 (shares): Take: the walk.
-/
namespace Go.Proofs.YtdbjihkgafhakaaGreatDoor
open Go.RowKit Go.Sort
variable {G : Nat → Prop}
theorem Zl2 {q : Int} {gv : Bool} {l l2 : List TRow} (h : PicksT q gv l l2) (hq1 : 1 ≤ q) (hq : q ≤ 64) (hok : TRowsOk gv l) : TRowsOk true l2 := by
 induction h with
 | @grant gv x r l2 hp h =>
   have hi := hok.inner x List.mem_cons_self
   refine ⟨?_, fun y hy => ?_⟩
   ·show NdsOk true (ndT (Zb4 q gv x l2) :: r.map ndT)
    rw [ZdW]
    exact ⟨Zcs hq1 hq hok.nds.1, hok.nds.2⟩
   ·rcases List.mem_cons.1 hy with rfl | hy
    ·exact ⟨ZbX hp hq1 hq hi.1, ZbC hp⟩
    ·exact hok.inner y (List.mem_cons_of_mem _ hy)
 | rotate hp h hr ih => exact ih (hok.rotate hq1 hq hp h).1
theorem ZjA {q : Int} {gv : Bool} {l l2 : List TRow} (h : PicksT q gv l l2) (ho : ∀ x ∈ l, ∀ r ∈ x.rows, (r.its.map It.id).Nodup) : ∀ x ∈ l2, ∀ r ∈ x.rows, (r.its.map It.id).Nodup := by
 induction h with
 | @grant gv x r l2 hp h =>
   intro y hy
   rcases List.mem_cons.1 hy with rfl | hy
   ·exact ZdK hp (ho x List.mem_cons_self)
   ·exact ho y (List.mem_cons_of_mem _ hy)
 | @rotate gv x r l3 l2 hp h hr ih =>
   refine ih (fun y hy => ?_)
   rcases List.mem_append.1 hy with hy | hy
   ·exact ho y (List.mem_cons_of_mem _ hy)
   ·rw [List.mem_singleton] at hy
    subst hy
    exact ZdK hp (ho x List.mem_cons_self)
def ZkT (G : Nat → Prop) (b : Nat) (q : Int) (gv : Bool) (rows : List TRow) (w : World) (e : Ending) (w' : World) : Prop :=
 ∃ row rest v' l', e = .returned (.tuple #[entV (entOf row), .bool true]) ∧ PicksT q gv rows (row :: rest) ∧ RefS G w' b q (tookT row rest).1 v' l' ∧ l'.map Prod.fst = (tookT row rest).2 ∧ Fp (fun j => j = b) w w'
set_option maxRecDepth 100000 in
set_option maxHeartbeats 8000000 in
theorem Zin (b : Nat) (q : Int) (gv : Bool) (v : Value) (l : List DV) (w : World) (h : RefS G w b q gv v l) (hne : l ≠ []) (hq1 : 1 ≤ q) (hq : q ≤ 64) (hok : TRowsOk gv (l.map Prod.fst)) (hon : ∀ x ∈ l.map Prod.fst, ∀ r ∈ x.rows, (r.its.map It.id).Nodup) :
 Calls Tryz.prog 75 #[.pointer (some ⟨b, 0, none⟩)] w (ZkT G b q gv (l.map Prod.fst) w) := by
 have HR := Lib.hid h
 have HQ1 := Lib.hid hq1
 have HQ := Lib.hid hq
 have HOK := Lib.hid hok
 have HON := Lib.hid hon
 have HNE := Lib.hid hne
 clear h hok hq1 hq hne hon
 go_enter Tryz.func75, Tryz.ntmps75
 go_upto_region 1 with fail
 obtain ⟨w1, hw1⟩ : ∃ w1 : World, w1 = w.alloc (.cells #[.string ⟨#[]⟩, .int .i64 0, .int .i64 0, .int .i64 0, .int .i64 0, .int .i64 0, .int .i64 0, .int .i64 0] 25) := ⟨_, rfl⟩
 obtain ⟨eb, heb⟩ : ∃ eb : Nat, eb = w.heap.size := ⟨_, rfl⟩
 rw [← hw1, ← heb]
 have HB1 := Lib.hid (show Below w.heap.size w w1 by rw [hw1]; exact box_below)
 have HE1 := Lib.hid (show w1.heap[eb]? = some (.cells #[.string ⟨#[]⟩, .int .i64 0, .int .i64 0, .int .i64 0, .int .i64 0, .int .i64 0, .int .i64 0, .int .i64 0] 25 (0, 0)) by rw [hw1, heb]; exact Zf)
 have HEB := Lib.hid heb
 have HBE := Lib.hid (show ¬ eb = b by have := Zb HR.out.head; omega)
 have HR1 := Lib.hid (show RefS (But G eb) w1 b q gv v l by rw [heb]; exact HR.out.but hw1)
 clear hw1 heb
 go_wp2_with fail
 refine (Zim b q gv v l w1 HR1.out HNE.out HQ1.out HQ.out HOK.out).mono ?_
 rintro e w2 ⟨row, rest, v2, l2, rfl, hp, hR2, hm2, hF2⟩
 obtain ⟨p, r, rfl⟩ : ∃ p r, l2 = p :: r := by
  cases l2 with
  | nil => cases hm2
  | cons p r => exact ⟨p, r, rfl⟩
 rw [List.map_cons, List.cons.injEq] at hm2
 obtain ⟨rfl, rfl⟩ := hm2
 obtain ⟨E, hE⟩ : ∃ E, E = entOf p.1 := ⟨_, rfl⟩
 rw [← hE]
 have HE := Lib.hid hE
 have HCOST := Lib.hid (show E.cost = (Z5 p.1.rows).cost by rw [hE]; rfl)
 have HP := Lib.hid hp
 have HR2 := Lib.hid hR2
 have HE2 := Lib.hid (hF2.heap HE1.out HBE.out)
 have HF2 := Lib.hid hF2
 have HOK2 := Lib.hid (Zl2 hp HQ1.out HQ.out HOK.out)
 have HON2 := Lib.hid (ZjA hp HON.out)
 obtain ⟨px, pr, py, pys, hpe, hgv, hrw, hle1, hle2⟩ := hp.le
 rw [List.cons.injEq] at hpe
 obtain ⟨rfl, rfl⟩ := hpe
 have HGV := Lib.hid hgv
 have HRW := Lib.hid hrw
 have HLE1 := Lib.hid hle1
 have HLE2 := Lib.hid hle2
 clear hp hR2 hF2 hE hgv hrw hle1 hle2
 unfold entV entC
 go_upto_region 2 with fail
 obtain ⟨w3, hw3⟩ : ∃ w3 : World, w3 = w2.alloc (.cells #[.string E.need, .int .i64 E.cls, .int .i64 E.ten, .int .i64 E.tw, .int .i64 E.inv, .int .i64 E.iw, .int .i64 E.id, .int .i64 E.cost] 25) := ⟨_, rfl⟩
 obtain ⟨xb, hxb⟩ : ∃ xb : Nat, xb = w2.heap.size := ⟨_, rfl⟩
 rw [← hw3, ← hxb]
 have HB3 := Lib.hid (show Below w2.heap.size w2 w3 by rw [hw3]; exact box_below)
 have HX3 := Lib.hid (show w3.heap[xb]? = some (.cells #[.string E.need, .int .i64 E.cls, .int .i64 E.ten, .int .i64 E.tw, .int .i64 E.inv, .int .i64 E.iw, .int .i64 E.id, .int .i64 E.cost] 25 (0, 0)) by rw [hw3, hxb]; exact Zf)
 have HE3 := Lib.hid ((HB3.out.block _ (Zb HE2.out)).trans HE2.out)
 have HXE := Lib.hid (show ¬ xb = b by have := Zb HR2.out.head; omega)
 have HR3 := Lib.hid (HR2.out.below HB3.out)
 clear hw3 hxb
 obtain ⟨gb, off, cap', hv, hcap, c0, c1, c2, c3, c4, c5⟩ := HR3.out.rows.at (k := 0) (p := p) rfl
 obtain ⟨pa, pc, hpv, -⟩ := (HR3.out.rows.inv p List.mem_cons_self).rows.form
 have HPV := Lib.hid hpv
 rw [hpv] at c4
 simp only [Nat.zero_mul, Nat.add_zero] at c0 c1 c2 c3 c4 c5
 have b1 : w3.cell? ⟨b, 1, none⟩ = some (.slice (some ⟨gb, off, none⟩) (r.length + 1) cap') := by rw [← List.length_cons (a := p), ← hv]; exact Za HR3.out.head rfl
 clear hv hpv
 go_upto_region 5 with fail
 obtain ⟨w4, hw4⟩ : ∃ w4 : World, w4 = w3.alloc (.cells #[.int .i64 p.1.id, .int .i64 p.1.wt, .int .i64 p.1.df, .int .i64 p.2.1, .slice pa p.2.2.2.length pc, .bool p.1.gv] 106) := ⟨_, rfl⟩
 obtain ⟨bx, hbx⟩ : ∃ bx : Nat, bx = w3.heap.size := ⟨_, rfl⟩
 rw [← hw4, ← hbx]
 have hwo : w4 = w3.alloc (dvO p) := by rw [hw4]; unfold dvO; rw [HPV.out]
 have HRB4 := Lib.hid (show RefBt (But (But G eb) bx) (.int .i64 p.1.id) (.int .i64 p.1.wt) (.int .i64 p.1.df) w4 bx q p.1.gv p.2.2.1 p.2.2.2 by rw [hbx]; exact HR3.out.box List.mem_cons_self hwo)
 have HRS4 := Lib.hid (show RefS (But (But G eb) bx) w4 b q true v2 (p :: r) by rw [hbx]; exact HR3.out.but hwo)
 have HB4 := Lib.hid (show Below w3.heap.size w3 w4 by rw [hw4]; exact box_below)
 have HBX := Lib.hid hbx
 have HBB := Lib.hid (show ¬ b = bx by have := Zb HR3.out.head; omega)
 have HPI := Lib.hid (HR3.out.rows.inv p List.mem_cons_self).same
 have HIN := Lib.hid (HOK2.out.inner p.1 List.mem_cons_self)
 have HX4 := Lib.hid ((HB4.out.block _ (Zb HX3.out)).trans HX3.out)
 have HE4 := Lib.hid ((HB4.out.block _ (Zb HE3.out)).trans HE3.out)
 have HNX := Lib.hid (show ¬ xb = bx by have := Zb HX3.out; omega)
 have HNE2 := Lib.hid (show ¬ eb = bx by have := Zb HE3.out; omega)
 clear hw4 hbx hwo c0 c1 c2 c3 c4 c5 b1
 go_wp2_with fail
 refine (Zhy bx q p.1.gv _ p.2.2.2 _ HRB4.out (fun e => HIN.out.2 (by rw [← HPI.out, e]; rfl)) HQ1.out HQ.out (by rw [HPI.out]; exact HIN.out.1) (by rw [HPI.out]; exact HON2.out p.1 List.mem_cons_self)).mono ?_
 rintro e w5 ⟨row', rest', v5, l5, rfl, hp5, hR5, hm5, hF5⟩
 rw [HPI.out, HGV.out, HRW.out] at hp5
 have hsm := hp5.once (Zf4 HLE1.out)
 rw [List.cons.injEq] at hsm
 obtain ⟨rfl, rfl⟩ := hsm
 obtain ⟨a5, cp5, hv5, -⟩ := hR5.rows.form
 subst hv5
 obtain ⟨gv5, hgv5⟩ : ∃ gv5, gv5 = (tookR row' rest').1 := ⟨_, rfl⟩
 rw [← hgv5] at hR5
 have HGV5 := Lib.hid hgv5
 have HM5 := Lib.hid hm5
 have HRB5 := Lib.hid hR5
 have HRS5 := Lib.hid (HRS4.out.fp hF5 HBB.out (fun k _ hg => hg.2))
 have HX5 := Lib.hid (hF5.heap HX4.out HNX.out)
 have HE5 := Lib.hid (hF5.heap HE4.out HNE2.out)
 have HF5 := Lib.hid (((HF2.out.then_below HB3.out).then_below HB4.out).trans hF5 (fun j hj e => by have h1 := HBX.out; have h2 := HF2.out.size; have h3 := HB3.out.size; omega))
 have hcost : 1 ≤ E.cost ∧ E.cost ≤ 64 := by
  rw [HCOST.out]
  exact ZeR HIN.out.1 HIN.out.2
 have hw1 : wrap64 (p.1.df - E.cost) = p.1.df - E.cost := by
  have hd := HOK2.out.nds.1
  have h3 : 0 ≤ p.1.df := hd.2.2.1
  have h4 : p.1.df ≤ if true = true then 2112 else 1088 := hd.2.2.2
  simp at h4
  unfold wrap64
  omega
 have x2 : w5.cell? ⟨bx, 2, none⟩ = some (.int .i64 p.1.df) := Za hR5.head rfl
 have f2 : w5.frozen? ⟨bx, 2, none⟩ = false := Zd hR5.head
 have x7 : w5.cell? ⟨xb, 7, none⟩ = some (.int .i64 E.cost) := Za HX5.out rfl
 clear hp5 hR5 hm5 hF5 hgv5 hcost
 unfold itV
 go_upto_region 7 with fail
 obtain ⟨w6, hw6⟩ : ∃ w6 : World, w6 = w5.setCell ⟨bx, 2, none⟩ (.int .i64 (p.1.df - E.cost)) := ⟨_, rfl⟩
 rw [← hw6]
 obtain ⟨hRB6, hF6⟩ := Zj6 HRB5.out (.int .i64 (p.1.df - E.cost))
 rw [← hw6] at hRB6 hF6
 have HRB6 := Lib.hid hRB6
 have HRS6 := Lib.hid (HRS5.out.fp hF6 HBB.out (fun k _ hg => hg.2))
 have HX6 := Lib.hid (hF6.heap HX5.out HNX.out)
 have HE6 := Lib.hid (hF6.heap HE5.out HNE2.out)
 have HF6 := Lib.hid (HF5.out.trans hF6 (fun j hj e => by have h1 := HBX.out; have h2 := HF2.out.size; have h3 := HB3.out.size; omega))
 have y0 : w6.cell? ⟨bx, 0, none⟩ = some (.int .i64 p.1.id) := Za hRB6.head rfl
 have y1 : w6.cell? ⟨bx, 1, none⟩ = some (.int .i64 p.1.wt) := Za hRB6.head rfl
 have y2 : w6.cell? ⟨bx, 2, none⟩ = some (.int .i64 (p.1.df - E.cost)) := Za hRB6.head rfl
 have y3 : w6.cell? ⟨bx, 3, none⟩ = some (.int .i64 q) := Za hRB6.head rfl
 have y4 : w6.cell? ⟨bx, 4, none⟩ = some (.slice a5 l5.length cp5) := Za hRB6.head rfl
 have y5 : w6.cell? ⟨bx, 5, none⟩ = some (.bool gv5) := Za hRB6.head rfl
 clear hw1 hw6 x2 f2 x7 hRB6 hF6
 go_wp2_with fail
 refine (Zfv b q true v2 (p :: r) 0 ({ p.1 with df := p.1.df - E.cost, gv := gv5, rows := l5.map Prod.fst }, q, .slice a5 l5.length cp5, l5) w6 HRS6.out (by simp) (HRB6.out.invAt rfl) HRB6.out.invG rfl).mono ?_
 rintro e w7 ⟨rfl, hF7, v7, hR7⟩
 have HX7 := Lib.hid (hF7.heap HX6.out HXE.out)
 have HE7 := Lib.hid (hF7.heap HE6.out HBE.out)
 have HF7 := Lib.hid (HF6.out.trans hF7 (fun _ _ h => h))
 have HR7 := Lib.hid hR7
 clear hF7 hR7 y0 y1 y2 y3 y4 y5
 have x0 : w7.cell? ⟨xb, 0, none⟩ = some (.string E.need) := Za HX7.out rfl
 have x1 : w7.cell? ⟨xb, 1, none⟩ = some (.int .i64 E.cls) := Za HX7.out rfl
 have x2 : w7.cell? ⟨xb, 2, none⟩ = some (.int .i64 E.ten) := Za HX7.out rfl
 have x3 : w7.cell? ⟨xb, 3, none⟩ = some (.int .i64 E.tw) := Za HX7.out rfl
 have x4 : w7.cell? ⟨xb, 4, none⟩ = some (.int .i64 E.inv) := Za HX7.out rfl
 have x5 : w7.cell? ⟨xb, 5, none⟩ = some (.int .i64 E.iw) := Za HX7.out rfl
 have x6 : w7.cell? ⟨xb, 6, none⟩ = some (.int .i64 E.id) := Za HX7.out rfl
 have x7 : w7.cell? ⟨xb, 7, none⟩ = some (.int .i64 E.cost) := Za HX7.out rfl
 go_upto_region 8 with fail
 go_wp2_with (refine wpList_store_row rfl 25 _ _ rfl eb #[.string E.need, .int .i64 E.cls, .int .i64 E.ten, .int .i64 E.tw, .int .i64 E.inv, .int .i64 E.iw, .int .i64 E.id, .int .i64 E.cost] rfl rfl 25 _ HE7.out (ZZ E) rfl (ZaJ E) ?_)
 clear x0 x1 x2 x3 x4 x5 x6 x7
 have hh8 := setRow_heap w7 eb _ #[.string E.need, .int .i64 E.cls, .int .i64 E.ten, .int .i64 E.tw, .int .i64 E.inv, .int .i64 E.iw, .int .i64 E.id, .int .i64 E.cost] _ _ HE7.out
 have hF8 : Fp (fun k => k = eb) w7 (w7.setRow eb #[.string E.need, .int .i64 E.cls, .int .i64 E.ten, .int .i64 E.tw, .int .i64 E.inv, .int .i64 E.iw, .int .i64 E.id, .int .i64 E.cost]) := (Fp.refl (fun k => k = eb) w7).setRow (fun _ => rfl)
 refine bodyPost_ret (v := .tuple #[.agg #[.string E.need, .int .i64 E.cls, .int .i64 E.ten, .int .i64 E.tw, .int .i64 E.inv, .int .i64 E.iw, .int .i64 E.id, .int .i64 E.cost], .bool true]) (ZL Tryz.results75 rfl rfl hh8 Tryz.underlying25 rfl (ZZ E)) rfl ?_
 have hR8 := (((HR7.out.unbut HR2.out.nb).fp hF8 (fun e => HBE.out e.symm) (fun k _ hg => hg.2)).unbut HR.out.nb)
 have hw := Zjx (k := 0) (p := ({ p.1 with df := p.1.df - E.cost, gv := gv5, rows := l5.map Prod.fst }, q, Value.slice a5 l5.length cp5, l5)) rfl true (p :: r)
 have htk : tookA (p.1.gv, p.1.rows) = tookR row' rest' := by
  unfold tookA
  rw [HRW.out]
 have hcfg : withT 0 { p.1 with df := p.1.df - E.cost, gv := gv5, rows := l5.map Prod.fst } true ((p :: r).map Prod.fst) = tookT p.1 (r.map Prod.fst) := by
  unfold tookT
  rw [htk, HGV5.out, HM5.out, HCOST.out]
  rfl
 rw [hcfg] at hw
 rw [hw.1] at hR8
 refine ⟨p.1, r.map Prod.fst, v7, _, by rw [← HE.out]; rfl, HP.out, hR8, hw.2, ?_⟩
 exact ((Fp.of_below HB1.out).trans HF7.out (fun _ _ h => h)).trans hF8 (fun k hk e => by have := HEB.out; omega)
end Go.Proofs.YtdbjihkgafhakaaGreatDoor
/-
 ref16 (shares): Waits, Len, Same of two lists that are the same: the walks.
-/
namespace Go.Proofs.YtdbjihkgafhakaaGreatDoor
open Go.RowKit Go.Sort
def FewD (l : List DV) : Prop := l.length ≤ 1000000 ∧ ∀ p ∈ l, p.2.2.2.length ≤ 1000000 ∧ ∀ r ∈ p.2.2.2, r.1.its.length ≤ 1000000
set_option maxRecDepth 100000 in
set_option maxHeartbeats 4000000 in
theorem ZdX (q : Int) (gv : Bool) (v : Value) (l : List DV) (w : World) (h : DRowsAt w v l) (hf : FewD l) (ht : totT (l.map Prod.fst) ≤ 1000000000) : Calls Tryz.prog 49 #[.agg #[.int .i64 q, v, .bool gv]] w fun e w' => e = .returned (.int .i64 (totT (l.map Prod.fst))) ∧ Below w.heap.size w w' := by
 have HI := Lib.hid (h.below (box_below (o := .cells #[.int .i64 q, v, .bool gv] 100)))
 obtain ⟨a, cap, rfl, -⟩ := h.form
 have HF := Lib.hid hf
 have HT := Lib.hid ht
 clear h hf ht
 go_enter Tryz.func49, Tryz.ntmps49
 go_upto_region 1 with fail
 obtain ⟨w1, hw1⟩ : ∃ w1 : World, w1 = w.alloc (.cells #[.int .i64 q, .slice a l.length cap, .bool gv] 100) := ⟨_, rfl⟩
 obtain ⟨sb, hsb⟩ : ∃ sb : Nat, sb = w.heap.size := ⟨_, rfl⟩
 rw [← hw1] at HI
 rw [← hw1, ← hsb]
 have b1 : w1.cell? ⟨sb, 1, none⟩ = some (.slice a l.length cap) := by rw [hw1, hsb]; exact Zm rfl
 have HB1 := Lib.hid (show Below w.heap.size w w1 by rw [hw1]; exact box_below)
 clear hw1 hsb
 go_wp2_with fail
 go_loopg [4, 3] l.length (fun g i n wr => ∃ k : Nat, g = l.length - k ∧ i = .int .i64 k ∧ n = .int .i64 (totT ((l.map Prod.fst).take k)) ∧ k ≤ l.length ∧ wr = w1)
 case atStart => exact ⟨0, rfl, rfl, rfl, Nat.zero_le _, rfl⟩
 case round =>
  obtain ⟨k, hg, rfl, rfl, hk, rfl⟩ := hrel
  have HG := Lib.hid hg
  clear hg
  by_cases hlt : k < l.length
  ·obtain ⟨p, hp⟩ : ∃ p, l[k]? = some p := ⟨_, List.getElem?_eq_getElem hlt⟩
   have hmem := List.mem_of_getElem? hp
   have HIN := Lib.hid (HI.out.inv p hmem)
   have HX := Lib.hid (show (l.map Prod.fst)[k]? = some p.1 by rw [List.getElem?_map, hp]; rfl)
   have HFP := Lib.hid (HF.out.2 p hmem)
   obtain ⟨g, off, cap', hv, -, -, -, -, -, c4, -⟩ := HI.out.at hp
   cases hv
   obtain ⟨pa, pc, hpv, -⟩ := HIN.out.rows.form
   rw [hpv] at c4
   have HPV := Lib.hid hpv
   have hkl : (k : Int) < (l.length : Int) := by omega
   obtain ⟨A, hA⟩ : ∃ A, A = totT ((l.map Prod.fst).take k) := ⟨_, rfl⟩
   rw [← hA]
   have HA := Lib.hid hA
   have HAS := Lib.hid (ZgX HX.out)
   have HAL := Lib.hid (ZjX (l.map Prod.fst) (k + 1))
   have HLEN := Lib.hid (show p.2.2.2.length = p.1.rows.length by rw [← HIN.out.same, List.length_map])
   clear hp hmem hpv hA
   go_upto_region 5 with fail
   go_wp2_with fail
   go_loopg [5, 3] p.2.2.2.length (fun g i n wr' => ∃ j : Nat, g = p.2.2.2.length - j ∧ i = .int .i64 j ∧ n = .int .i64 ((A + totR (p.1.rows.take j) : Nat) : Int) ∧ j ≤ p.2.2.2.length ∧ wr' = wr)
   case atStart => exact ⟨0, rfl, rfl, rfl, Nat.zero_le _, rfl⟩
   case round =>
    obtain ⟨j, hg, rfl, rfl, hj, rfl⟩ := hrel
    have HG' := Lib.hid hg
    clear hg
    by_cases hjl : j < p.2.2.2.length
    ·obtain ⟨⟨r', u⟩, hp⟩ : ∃ r, p.2.2.2[j]? = some r := ⟨_, List.getElem?_eq_getElem hjl⟩
     have hy : p.1.rows[j]? = some r' := by rw [← HIN.out.same, List.getElem?_map, hp]; rfl
     have HTS := Lib.hid (ZgY hy)
     have HTL := Lib.hid (ZjY p.1.rows (j + 1))
     obtain ⟨gr, offr, capr, hv3, -, -, -, -, d3⟩ := HIN.out.rows.at hp
     rw [HPV.out] at hv3
     cases hv3
     obtain ⟨ai, ci, hu⟩ : ∃ ai ci, u = .slice ai r'.its.length ci := ZN (HIN.out.rows.its _ (List.mem_of_getElem? hp))
     simp only at d3
     rw [hu] at d3
     have hjl2 : (j : Int) < (p.2.2.2.length : Int) := by omega
     clear hp hy hu
     go_wp2_with fail
     go_roundg (p.2.2.2.length - (j + 1))
     case rel =>
      have h1 := HAS.out
      have h2 := HAL.out
      have h3 := HT.out
      have h4 := HTS.out
      have h5 := HTL.out
      have h6 := HFP.out.1
      have h7 := HA.out
      refine ⟨j + 1, rfl, by rw [show wrap64 ((j : Int) + 1) = ((j + 1 : Nat) : Int) by unfold wrap64; omega], ?_, by omega, rfl⟩
      rw [show wrap64 ((A : Int) + (totR (p.1.rows.take j) : Int) + (r'.its.length : Int)) = ((A + totR (p.1.rows.take (j + 1)) : Nat) : Int) by unfold wrap64; omega]
     case measure => have := HG'.out; omega
    ·have HJ := Lib.hid (show p.1.rows.take j = p.1.rows from List.take_of_length_le (by have := HLEN.out; omega))
     go_wp2_with fail
     go_roundg (l.length - (k + 1))
     case rel =>
      have h0 := HF.out.1
      refine ⟨k + 1, rfl, by rw [show wrap64 ((k : Int) + 1) = ((k + 1 : Nat) : Int) by unfold wrap64; omega], ?_, by omega, rfl⟩
      rw [HJ.out, HAS.out, HA.out]
     case measure => have := HG.out; omega
  ·have HK := Lib.hid (show (l.map Prod.fst).take k = l.map Prod.fst from List.take_of_length_le (by rw [List.length_map]; omega))
   go_wp2_with fail
   go_ret
   exact ⟨ZM (by rw [HK.out]), HB1.out⟩
set_option maxRecDepth 100000 in
set_option maxHeartbeats 4000000 in
theorem ZkU (u v : Value) (l m : List DV) (w : World) (h : DRowsAt w u l) (h' : DRowsAt w v m) (hlm : l.map Prod.fst = m.map Prod.fst) (hf : FewD l) : Calls Tryz.prog 77 #[u, v] w fun e w' => e = .returned (.bool true) ∧ Below w.heap.size w w' := by
 have hl : m.length = l.length := by
  have := congrArg List.length hlm
  simpa using this.symm
 have HI := Lib.hid h
 have HJ := Lib.hid h'
 obtain ⟨a, cap, rfl, -⟩ := h.form
 obtain ⟨b, cap2, rfl, -⟩ := h'.form
 have HLM := Lib.hid hlm
 have HF := Lib.hid hf
 rw [hl] at HJ ⊢
 have HL := Lib.hid hl
 clear h h' hlm hf hl
 have hle : ((l.length : Int) != (l.length : Int)) = false := by simp
 go_enter Tryz.func77, Tryz.ntmps77
 go_wp2_with fail
 go_loopg [5] l.length (fun g i wr => ∃ k : Nat, g = l.length - k ∧ i = .int .i64 k ∧ k ≤ l.length ∧ Below w.heap.size w wr)
 case atStart => exact ⟨0, rfl, rfl, Nat.zero_le _, Below.refl _ _⟩
 case round =>
  obtain ⟨k, hg, rfl, hk, hb⟩ := hrel
  have HG := Lib.hid hg
  have HB := Lib.hid hb
  clear hg hb
  by_cases hlt : k < l.length
  ·obtain ⟨⟨x, q1, vi, li⟩, hx⟩ : ∃ p, l[k]? = some p := ⟨_, List.getElem?_eq_getElem hlt⟩
   obtain ⟨⟨x', q2, vj, lj⟩, hy⟩ : ∃ p, m[k]? = some p := ⟨_, List.getElem?_eq_getElem (by have := HL.out; omega)⟩
   have hxx : x' = x := by
    have h := congrArg (fun z => z[k]?) HLM.out
    simp only [List.getElem?_map, hx, hy, Option.map_some, Option.some.injEq] at h
    exact h.symm
   subst hxx
   have HXI := Lib.hid (HI.out.inv _ (List.mem_of_getElem? hx))
   have HXJ := Lib.hid (HJ.out.inv _ (List.mem_of_getElem? hy))
   have HXF := Lib.hid (HF.out.2 _ (List.mem_of_getElem? hx))
   obtain ⟨g, off, cap', hv, _, c0, c1, c2, c3, c4, c5⟩ := (HI.out.below HB.out).at hx
   cases hv
   obtain ⟨g', off', cap', hv, _, d0, d1, d2, d3, d4, d5⟩ := (HJ.out.below HB.out).at hy
   rw [HL.out] at hv
   cases hv
   simp only at c0 c1 c2 c3 c4 c5 d0 d1 d2 d3 d4 d5
   have hkl : (k : Int) < (l.length : Int) := by omega
   have c0 := cell_regrown c0
   have c1 := cell_regrown c1
   have c2 := cell_regrown c2
   have c4 := cell_regrown c4
   have c5 := cell_regrown c5
   have d0 := cell_regrown d0
   have d1 := cell_regrown d1
   have d2 := cell_regrown d2
   have d4 := cell_regrown d4
   have d5 := cell_regrown d5
   have e0 : (x'.id != x'.id) = false := by simp
   have e1 : (x'.wt != x'.wt) = false := by simp
   have e2 : (x'.df != x'.df) = false := by simp
   have e3 : (x'.gv != x'.gv) = false := by simp
   have hsame : ∀ (d : Nat) (os : Array Obj), Calls Tryz.prog 107 #[vi, vj] (grow (redrawn wr d) os) fun e w' => e = .returned (.bool true) ∧ Below (grow (redrawn wr d) os).heap.size (grow (redrawn wr d) os) w' := fun d os => by
    have hb := Zp (d := d) (os := os) HB.out HB.out.size
    exact ZkN vi vj li lj _ (HXI.out.rows.below hb) (HXJ.out.rows.below hb) (HXI.out.same.trans HXJ.out.same.symm) HXF.out.1 HXF.out.2
   have HSAME := Lib.hid hsame
   clear hx hy hsame c3 d3
   go_upto_region 6 with fail
   refine wp_region_quiet_below (by kernel_rfl) (by kernel_rfl) ?_
   dsimp only [List.append]
   repeat (go_big_quiet_step (exact Calls.regrown_of (HSAME.out _ _)))
   refine wpQuiet_nil ?_
   rintro _ ⟨⟨dq, osq⟩, rfl⟩
   clear c0 c1 c2 c4 c5 d0 d1 d2 d4 d5
   go_wp2_with fail
   go_roundg (l.length - (k + 1))
   case rel =>
    have hf := HF.out.1
    exact ⟨k + 1, rfl, by rw [show wrap64 ((k : Int) + 1) = ((k + 1 : Nat) : Int) by unfold wrap64; omega], by omega, Zp HB.out HB.out.size⟩
   case measure => have := HG.out; omega
  ·go_wp2_with fail
   go_ret
   exact ⟨rfl, HB.out⟩
end Go.Proofs.YtdbjihkgafhakaaGreatDoor
