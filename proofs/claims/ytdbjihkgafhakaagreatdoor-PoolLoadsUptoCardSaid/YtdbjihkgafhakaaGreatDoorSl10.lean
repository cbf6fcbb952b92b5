/-
 How many items wait behind a pick, and behind a Take.
 share.Share: Len: the walk; how many items wait in a share.
 pool.Pools: how pools lie in memory.
 pool.Pools: find, tick, Share: the walks.
-/
import Derived.Test.YtdbjihkgafhakaaGreatDoorSl07
import Derived.Test.YtdbjihkgafhakaaGreatDoorSl09
namespace Go.Proofs.YtdbjihkgafhakaaGreatDoor
theorem ZgW {q : Int} {gv : Bool} {l l2 : List FRow} (h : PicksR q gv l l2) : totR l2 = totR l := by
 induction h with
 | @grant gv x r h => simp [totR, (Zas q gv x).1]
 | @rotate gv x r l2 h hr ih =>
   rw [ih]
   simp [totR, (Zas q gv x).1]
   omega
theorem ZmY (row : FRow) (rest : List FRow) : totR (tookR row rest).2 ≤ totR (row :: rest) := by
 unfold tookR withR
 split
 ·simp [totR]
 ·simp [totR]
theorem RowsIn.rows {T : TypeId} {w : World} {base : Nat} {v : Value} {l : List (FRow × Value)} (h : RowsIn T w base v l) : RowsAt w v l := ZbB h.own (fun p hp => ItsAt.own (h.its p hp))
open Go.RowKit Go.Sort
theorem Zks (p : TV) : (encTV p).length = 5 := rfl
structure TRowsAt (w : World) (v : Value) (l : List TV) : Prop where
 rows : ∃ a cap, v = .slice a l.length cap ∧ l.length ≤ cap ∧ ∀ (j : Nat) u, (ZbR l)[j]? = some u → ∃ g off, a = some ⟨g, off, none⟩ ∧ w.cell? ⟨g, off + j, none⟩ = some u
 inv : ∀ p ∈ l, RowsAt w p.2.1 p.2.2 ∧ p.2.2.map Prod.fst = p.1.rows
theorem TRowsAt.form {w : World} {v : Value} {l : List TV} (h : TRowsAt w v l) : ∃ a cap, v = .slice a l.length cap ∧ l.length ≤ cap := by
 obtain ⟨⟨a, cap, hv, hle, _⟩, _⟩ := h
 exact ⟨a, cap, hv, hle⟩
theorem TRowsAt.below {w w' : World} {v : Value} {l : List TV} (h : TRowsAt w v l) (hb : Below w.heap.size w w') : TRowsAt w' v l := by
 obtain ⟨⟨a, cap, rfl, hle, hc⟩, hi⟩ := h
 exact ⟨⟨a, cap, rfl, hle, fun j u hu => by obtain ⟨g, off, ha, h0⟩ := hc j u hu; exact ⟨g, off, ha, Zc hb h0⟩⟩, fun p hp => ⟨(hi p hp).1.below hb, (hi p hp).2⟩⟩
theorem TRowsAt.at {w : World} {v : Value} {l : List TV} (h : TRowsAt w v l) {k : Nat} {p : TV} (hp : l[k]? = some p) : ∃ g off cap, v = .slice (some ⟨g, off, none⟩) l.length cap ∧ l.length ≤ cap ∧ w.cell? ⟨g, off + k * 5, none⟩ = some (.int .i64 p.1.id) ∧ w.cell? ⟨g, off + k * 5 + 1, none⟩ = some (.int .i64 p.1.wt) ∧
 w.cell? ⟨g, off + k * 5 + 2, none⟩ = some (.int .i64 p.1.df) ∧ w.cell? ⟨g, off + k * 5 + 3, none⟩ = some p.2.1 ∧ w.cell? ⟨g, off + k * 5 + 4, none⟩ = some (.bool p.1.gv) := by
 obtain ⟨⟨a, cap, rfl, hle, hc⟩, _⟩ := h
 have key : ∀ i u, (encTV p)[i]? = some u → (ZbR l)[k * 5 + i]? = some u := fun i u hu => by
  have hi : i < 5 := (List.getElem?_eq_some_iff.1 hu).1
  unfold ZbR
  rw [Zbf encTV 5 Zks i hp hi]
  exact hu
 obtain ⟨g, off, rfl, h0⟩ := hc _ _ (key 0 _ rfl)
 have get : ∀ i u, (encTV p)[i]? = some u → w.cell? ⟨g, off + k * 5 + i, none⟩ = some u := fun i u hu => by
  obtain ⟨g', off', he, h1⟩ := hc _ _ (key i u hu)
  cases he
  rw [Nat.add_assoc]
  exact h1
 exact ⟨g, off, cap, rfl, hle, get 0 _ rfl, get 1 _ rfl, get 2 _ rfl, get 3 _ rfl, get 4 _ rfl⟩
theorem TRowsIn.rows {w : World} {base : Nat} {v : Value} {l : List TV} (h : TRowsIn w base v l) : TRowsAt w v l := by
 obtain ⟨a, cap, rfl, hle, _, _, hc⟩ := ZC h.own
 exact ⟨⟨a, cap, rfl, hle, fun j u hu => by obtain ⟨g, ha, _, _, h0, _⟩ := hc j u hu; exact ⟨g, 0, ha, by rw [Nat.zero_add]; exact h0⟩⟩, fun p hp => ⟨(h.inv p hp).1.rows, (h.inv p hp).2⟩⟩
def FewT (rows : List TRow) : Prop := rows.length ≤ 1000000 ∧ ∀ x ∈ rows, x.rows.length ≤ 1000000 ∧ ∀ r ∈ x.rows, r.its.length ≤ 1000000
theorem ZlB {w : World} {v : Value} {l : List TV} (h : TRowsAt w v l) (hf : FewT (l.map Prod.fst)) : l.length ≤ 1000000 ∧ ∀ p ∈ l, p.2.2.length ≤ 1000000 := by
 refine ⟨by have := hf.1; rwa [List.length_map] at this, fun p hp => ?_⟩
 have hx := hf.2 p.1 (List.mem_map_of_mem hp)
 rw [← (h.inv p hp).2, List.length_map] at hx
 exact hx.1
theorem Zh8 : ∀ {rows : List TRow}, (∀ x ∈ rows, x.rows ≠ [] ∧ ∀ r ∈ x.rows, r.its ≠ []) → rows.length ≤ totT rows
 | [], _ => by simp [totT]
 | x :: l, h => by
   have ih := Zh8 (rows := l) (fun y hy => h y (List.mem_cons_of_mem _ hy))
   have hx := h x List.mem_cons_self
   have h1 := Zdr hx.2
   have h2 := List.length_pos_iff.2 hx.1
   simp [totT] at ih ⊢
   omega
theorem ShareAt.fullT {pre : List Int} {ρ : Roles} {w : World} {f : Nat} {q : Int} {gv : Bool} {rows : List TRow} (h : ShareAt pre ρ w f q gv rows) : ∀ x ∈ rows, x.rows ≠ [] ∧ ∀ r ∈ x.rows, r.its ≠ [] := by
 obtain ⟨sp, v, ns, fb, a, h, rfl⟩ := h
 intro x hx
 obtain ⟨n, hn, rfl⟩ := List.mem_map.1 hx
 exact ⟨h.full n hn, (h.pre'.ring n hn).full⟩
theorem Zdu {rows : List TRow} (hfull : ∀ x ∈ rows, x.rows ≠ [] ∧ ∀ r ∈ x.rows, r.its ≠ []) (hf : totT rows ≤ 1000000) : FewT rows :=
 ⟨Nat.le_trans (Zh8 hfull) hf, fun x hx => ⟨Nat.le_trans (Zdr (hfull x hx).2) (Nat.le_trans (Zci hx) hf), fun _ hr => Nat.le_trans (ZeO hr) (Nat.le_trans (Zci hx) hf)⟩⟩
theorem ZgX {rows : List TRow} {k : Nat} {x : TRow} (h : rows[k]? = some x) : totT (rows.take (k + 1)) = totT (rows.take k) + totR x.rows := by
 rw [List.take_add_one, h]
 simp [totT]
theorem ZgY {rows : List FRow} {k : Nat} {x : FRow} (h : rows[k]? = some x) : totR (rows.take (k + 1)) = totR (rows.take k) + x.its.length := by
 rw [List.take_add_one, h]
 simp [totR]
theorem ZjX (rows : List TRow) (k : Nat) : totT (rows.take k) ≤ totT rows := by
 have h : totT rows = totT (rows.take k) + totT (rows.drop k) := by
  conv => lhs; rw [← List.take_append_drop k rows]
  simp only [totT, List.map_append, List.sum_append]
 omega
theorem ZjY (rows : List FRow) (k : Nat) : totR (rows.take k) ≤ totR rows := by
 have h : totR rows = totR (rows.take k) + totR (rows.drop k) := by
  conv => lhs; rw [← List.take_append_drop k rows]
  simp only [totR, List.map_append, List.sum_append]
 omega
section
variable {pre : List Int} {ρ : Roles} {f : Nat} {q : Int} {gv : Bool} {rows : List TRow}
set_option maxRecDepth 100000 in
set_option maxHeartbeats 4000000 in
theorem ZcS (w : World) (hR : ShareAt pre ρ w f q gv rows) (hf : totT rows ≤ 1000000) : Calls Tryz.prog 33 #[.pointer (some ⟨f, 0, none⟩)] w fun e w' => e = .returned (.int .i64 (totT rows)) ∧ Below w.heap.size w w' := by
 have HFT := Lib.hid (Zdu hR.fullT hf)
 have HF := Lib.hid hf
 have HR := Lib.hid hR
 clear hR hf
 go_enter Tryz.func33, Tryz.ntmps33
 go_wp2_with fail
 refine (Zcz w HR.out).mono ?_
 rintro e w1 ⟨v1, l, rfl, hr1, hm, hb1⟩
 have hr1 := hr1.rows
 have hfe := ZlB hr1 (by rw [hm]; exact HFT.out)
 have HFE := Lib.hid hfe
 have HR1 := Lib.hid hr1
 have HM := Lib.hid hm
 have HB1 := Lib.hid hb1
 obtain ⟨a, cap, rfl, -⟩ := hr1.form
 clear hr1 hm hb1 hfe
 go_wp2_with fail
 go_loopg [11, 3] l.length (fun g i n wr => ∃ k : Nat, g = l.length - k ∧ i = .int .i64 k ∧ n = .int .i64 (totT (rows.take k)) ∧ k ≤ l.length ∧ Below w1.heap.size w1 wr)
 case atStart => exact ⟨0, rfl, rfl, rfl, Nat.zero_le _, Below.refl _ _⟩
 case round =>
  obtain ⟨k, hg, rfl, rfl, hk, hb⟩ := hrel
  have HG := Lib.hid hg
  have HB := Lib.hid hb
  clear hg hb
  by_cases hlt : k < l.length
  ·obtain ⟨p, hp⟩ : ∃ p, l[k]? = some p := ⟨_, List.getElem?_eq_getElem hlt⟩
   have hmem := List.mem_of_getElem? hp
   have hin := HR1.out.inv p hmem
   have HIN := Lib.hid hin.1
   have HSM := Lib.hid hin.2
   have HX := Lib.hid (show rows[k]? = some p.1 by rw [← HM.out, List.getElem?_map, hp]; rfl)
   have HFP := Lib.hid (HFE.out.2 p hmem)
   obtain ⟨g, off, cap', hv, -, c0, c1, c2, c3, c4⟩ := (HR1.out.below HB.out).at hp
   cases hv
   obtain ⟨pa, pc, hpv, -⟩ := hin.1.form
   rw [hpv] at c3
   have HPV := Lib.hid hpv
   have hkl : (k : Int) < (l.length : Int) := by omega
   obtain ⟨A, hA⟩ : ∃ A, A = totT (rows.take k) := ⟨_, rfl⟩
   rw [← hA]
   have HA := Lib.hid hA
   have HAS := Lib.hid (ZgX HX.out)
   have HAL := Lib.hid (ZjX rows (k + 1))
   have HLEN := Lib.hid (show p.2.2.length = p.1.rows.length by rw [← HSM.out, List.length_map])
   clear hp hmem hpv hA hin
   go_upto_region 5 with fail
   obtain ⟨w2, hw2⟩ : ∃ w2 : World, w2 = wr.alloc (.cells #[.int .i64 p.1.id, .int .i64 p.1.wt, .int .i64 p.1.df, .slice pa p.2.2.length pc, .bool p.1.gv] 140) := ⟨_, rfl⟩
   obtain ⟨xb, hxb⟩ : ∃ xb : Nat, xb = wr.heap.size := ⟨_, rfl⟩
   rw [← hw2, ← hxb]
   have hx2 : w2.heap[xb]? = some (.cells #[.int .i64 p.1.id, .int .i64 p.1.wt, .int .i64 p.1.df, .slice pa p.2.2.length pc, .bool p.1.gv] 140 (0, 0)) := by rw [hw2, hxb]; exact Zf
   have HB2 := Lib.hid (show Below w1.heap.size w1 w2 by rw [hw2]; exact HB.out.alloc HB.out.size _)
   have c3 : w2.cell? ⟨xb, 3, none⟩ = some (.slice pa p.2.2.length pc) := Za hx2 rfl
   clear hw2 hxb hx2
   go_wp2_with fail
   go_loopg [18, 3] p.2.2.length (fun g i n wr' => ∃ j : Nat, g = p.2.2.length - j ∧ i = .int .i64 j ∧ n = .int .i64 ((A + totR (p.1.rows.take j) : Nat) : Int) ∧ j ≤ p.2.2.length ∧ Below w1.heap.size w1 wr')
   case atStart => exact ⟨0, rfl, rfl, rfl, Nat.zero_le _, HB2.out⟩
   case round =>
    obtain ⟨j, hg, rfl, rfl, hj, hb⟩ := hrel
    have HG' := Lib.hid hg
    have HBJ := Lib.hid hb
    clear hg hb
    by_cases hjl : j < p.2.2.length
    ·obtain ⟨⟨r', u⟩, hp⟩ : ∃ r, p.2.2[j]? = some r := ⟨_, List.getElem?_eq_getElem hjl⟩
     have hy : p.1.rows[j]? = some r' := by rw [← HSM.out, List.getElem?_map, hp]; rfl
     have HTS := Lib.hid (ZgY hy)
     have HTL := Lib.hid (ZjY p.1.rows (j + 1))
     obtain ⟨gr, offr, capr, hv3, -, d0, d1, d2, d3⟩ := (HIN.out.below HBJ.out).at hp
     rw [HPV.out] at hv3
     cases hv3
     obtain ⟨ai, ci, hu⟩ : ∃ ai ci, u = .slice ai r'.its.length ci := ZN (HIN.out.its _ (List.mem_of_getElem? hp))
     simp only at d0 d1 d2 d3
     rw [hu] at d3
     have hjl2 : (j : Int) < (p.2.2.length : Int) := by omega
     clear hp hy hu
     go_upto_region 8 with fail
     obtain ⟨w3, hw3⟩ : ∃ w3 : World, w3 = wr.alloc (.cells #[.int .i64 r'.id, .int .i64 r'.wt, .int .i64 r'.df, .slice ai r'.its.length ci] 143) := ⟨_, rfl⟩
     obtain ⟨yb, hyb⟩ : ∃ yb : Nat, yb = wr.heap.size := ⟨_, rfl⟩
     rw [← hw3, ← hyb]
     have hx3 : w3.heap[yb]? = some (.cells #[.int .i64 r'.id, .int .i64 r'.wt, .int .i64 r'.df, .slice ai r'.its.length ci] 143 (0, 0)) := by rw [hw3, hyb]; exact Zf
     have HB3 := Lib.hid (show Below w1.heap.size w1 w3 by rw [hw3]; exact HBJ.out.alloc HBJ.out.size _)
     have z3 : w3.cell? ⟨yb, 3, none⟩ = some (.slice ai r'.its.length ci) := Za hx3 rfl
     clear hw3 hyb hx3 d0 d1 d2 d3
     go_wp2_with fail
     go_roundg (p.2.2.length - (j + 1))
     case rel =>
      have h1 := HAS.out
      have h2 := HAL.out
      have h3 := HF.out
      have h4 := HTS.out
      have h5 := HTL.out
      have h6 := HFP.out
      have h7 := HA.out
      refine ⟨j + 1, rfl, by rw [show wrap64 ((j : Int) + 1) = ((j + 1 : Nat) : Int) by unfold wrap64; omega], ?_, by omega, HB3.out⟩
      rw [show wrap64 ((A : Int) + (totR (p.1.rows.take j) : Int) + (r'.its.length : Int)) = ((A + totR (p.1.rows.take (j + 1)) : Nat) : Int) by unfold wrap64; omega]
     case measure => have := HG'.out; omega
    ·have HJ := Lib.hid (show p.1.rows.take j = p.1.rows from List.take_of_length_le (by have := HLEN.out; omega))
     go_wp2_with fail
     go_roundg (l.length - (k + 1))
     case rel =>
      have h0 := HFE.out.1
      refine ⟨k + 1, rfl, by rw [show wrap64 ((k : Int) + 1) = ((k + 1 : Nat) : Int) by unfold wrap64; omega], ?_, by omega, HBJ.out⟩
      rw [HJ.out, HAS.out, HA.out]
     case measure => have := HG.out; omega
  ·have HK := Lib.hid (show rows.take k = rows from List.take_of_length_le (by rw [← HM.out, List.length_map]; omega))
   go_wp2_with fail
   go_ret
   exact ⟨ZM (by rw [HK.out]), HB1.out.trans (HB.out.mono HB1.out.size)⟩
end
theorem Zh9 : ∀ {rows : List TRow} {k : Nat} {r y : TRow}, rows[k]? = some r → totT (rows.set k y) + totR r.rows = totT rows + totR y.rows
 | [], _, _, _, h => by simp at h
 | x :: l, 0, r, y, h => by
   simp at h
   subst h
   simp [totT]
   omega
 | x :: l, k + 1, r, y, h => by
   have ih := Zh9 (rows := l) (k := k) (y := y) (by simpa using h)
   simp [totT] at ih ⊢
   omega
theorem Zf6 : ∀ {rows : List TRow} {k : Nat}, totT (rows.eraseIdx k) ≤ totT rows
 | [], _ => by simp
 | x :: l, 0 => by simp [totT]
 | x :: l, k + 1 => by
   have := Zf6 (rows := l) (k := k)
   simp [totT] at this ⊢
   omega
theorem ZlC {rows : List TRow} {k : Nat} {r y : TRow} {gv : Bool} (h : rows[k]? = some r) (hy : totR y.rows ≤ totR r.rows) : totT (withT k y gv rows).2 ≤ totT rows := by
 unfold withT
 split
 ·exact Zf6
 ·have := Zh9 (y := y) h
  show totT (rows.set k y) ≤ _
  omega
theorem ZlD (s : Bool × List FRow) : totR (tookA s).2 ≤ totR s.2 := by
 unfold tookA
 split
 ·rename_i r rs h
  rw [h]
  exact ZmY r rs
 ·exact Nat.le_refl _
theorem Zc7 (row : TRow) (rest : List TRow) : totT (tookT row rest).2 ≤ totT (row :: rest) := by
 unfold tookT
 exact ZlC (r := row) rfl (ZlD _)
theorem ZcG {q : Int} {gv : Bool} {l l2 : List TRow} (h : PicksT q gv l l2) : totT l2 = totT l := by
 induction h with
 | @grant gv x r l2 hp h =>
   have := ZgW hp
   simp [totT]
   omega
 | @rotate gv x r l3 l2 hp h hr ih =>
   rw [ih]
   have := ZgW hp
   simp [totT]
   omega
structure PC where
 served : Int
 blk : Nat
 f : Nat
 gv : Bool
 rows : List TRow
structure PN where
 name : ByteArray
 uses : Int
 blk : Nat
 cv : Value
 cls : List PC
structure PX where
 pools : Int
 classes : Nat
 q : Int
def pcO (c : PC) : Obj := .cells #[.int .i64 c.served, .pointer (some ⟨c.f, 0, none⟩)] 76 (0, 0)
def pnO (n : PN) : Obj := .cells #[.string n.name, .int .i64 n.uses, n.cv] 71 (0, 0)
def ppO (x : PX) (next : Int) (v : Value) : Obj := .cells #[.int .i64 x.pools, .int .i64 x.classes, .int .i64 x.q, .int .i64 next, v] 67 (0, 0)
structure ClsAt (ρ : Roles) (w : World) (q : Int) (nb : Nat) (c : PC) : Prop where
 blk : w.heap[c.blk]? = some (pcO c)
 role : ρ c.blk = [0, 5, (nb : Int)]
 share : ShareAt [0, 6, (c.blk : Int)] ρ w c.f q c.gv c.rows
structure NeedAt (ρ : Roles) (w : World) (q : Int) (m : Nat) (n : PN) : Prop where
 blk : w.heap[n.blk]? = some (pnO n)
 role : ρ n.blk = [0, 4, (n.blk : Int)]
 arr : ArrIn 73 w n.cv (n.cls.map PC.blk)
 arole : ∀ k, n.cv.ownBlock = some k → ρ k = [0, 2, (n.blk : Int)]
 cls : ∀ (k : Nat) c, n.cls[k]? = some c → ClsAt ρ w q n.blk c
 len : n.cls.length = m
 once : (n.cls.map PC.blk).Nodup
structure PoolAt (ρ : Roles) (w : World) (P : Nat) (x : PX) (next : Int) (v : Value) (L : List PN) : Prop where
 head : w.heap[P]? = some (ppO x next v)
 role : ρ P = [0, 1]
 arr : ArrIn 72 w v (L.map PN.blk)
 arole : ∀ k, v.ownBlock = some k → ρ k = [0, 3]
 need : ∀ (i : Nat) n, L[i]? = some n → NeedAt ρ w x.q x.classes n
 blks : (L.map PN.blk).Nodup
theorem ZdL {α β : Type} {f : α → β} : ∀ {l : List α} {i j : Nat} {x y : α}, (l.map f).Nodup → l[i]? = some x → l[j]? = some y → f x = f y → i = j
 | [], _, _, _, _, _, h, _, _ => by simp at h
 | a :: l, 0, 0, _, _, _, _, _, _ => rfl
 | a :: l, 0, j + 1, x, y, hn, hi, hj, e => by
   simp at hi
   subst hi
   rw [List.map_cons, List.nodup_cons] at hn
   exact absurd (e ▸ List.mem_map_of_mem (List.mem_of_getElem? (by simpa using hj))) hn.1
 | a :: l, i + 1, 0, x, y, hn, hi, hj, e => by
   simp at hj
   subst hj
   rw [List.map_cons, List.nodup_cons] at hn
   exact absurd (e ▸ List.mem_map_of_mem (f := f) (List.mem_of_getElem? (l := l) (i := i) (by simpa using hi))) hn.1
 | a :: l, i + 1, j + 1, x, y, hn, hi, hj, e => by
   rw [List.map_cons, List.nodup_cons] at hn
   rw [ZdL (l := l) (i := i) (j := j) hn.2 (by simpa using hi) (by simpa using hj) e]
def NPart (ρ : Roles) (n : PN) (k : Nat) : Prop := ρ k = [0, 4, (n.blk : Int)] ∨ ρ k = [0, 2, (n.blk : Int)] ∨ ρ k = [0, 5, (n.blk : Int)] ∨ ∃ c ∈ n.cls, Part ρ [0, 6, (c.blk : Int)] k
section
variable {ρ ρ' : Roles} {w w' : World} {P : Nat} {x : PX} {next q : Int} {v : Value} {L : List PN} {nb m : Nat} {c : PC} {n : PN}
theorem ClsAt.later (h : ClsAt ρ w q nb c) (hl : Later ρ ρ' w) : ClsAt ρ' w q nb c := ⟨h.blk, (hl _ (Zb h.blk)).trans h.role, h.share.later hl⟩
theorem ClsAt.frame (h : ClsAt ρ w q nb c) {S : Nat → Prop} (hf : Fp S w w') (h1 : ¬ S c.blk) (h2 : ∀ k, k < w.heap.size → Part ρ [0, 6, (c.blk : Int)] k → ¬ S k) : ClsAt ρ w' q nb c :=
 ⟨hf.heap h.blk h1, h.role, h.share.frame hf h2⟩
theorem NeedAt.later (h : NeedAt ρ w q m n) (hl : Later ρ ρ' w) : NeedAt ρ' w q m n :=
 ⟨h.blk, (hl _ (Zb h.blk)).trans h.role, h.arr, fun k hk => (hl k (h.arr.lt k hk)).trans (h.arole k hk), fun k c hc => (h.cls k c hc).later hl, h.len, h.once⟩
theorem NeedAt.frame (h : NeedAt ρ w q m n) {S : Nat → Prop} (hf : Fp S w w') (hS : ∀ k, k < w.heap.size → NPart ρ n k → ¬ S k) : NeedAt ρ w' q m n :=
 ⟨hf.heap h.blk (hS _ (Zb h.blk) (.inl h.role)), h.role, h.arr.frame hf (fun k hk => hS k (h.arr.lt k hk) (.inr (.inl (h.arole k hk)))), h.arole,
   fun k c hc => (h.cls k c hc).frame hf (hS _ (Zb (h.cls k c hc).blk) (.inr (.inr (.inl (h.cls k c hc).role)))) (fun j hj hp => hS j hj (.inr (.inr (.inr ⟨c, List.mem_of_getElem? hc, hp⟩)))), h.len, h.once⟩
theorem PoolAt.later (h : PoolAt ρ w P x next v L) (hl : Later ρ ρ' w) : PoolAt ρ' w P x next v L :=
 ⟨h.head, (hl _ (Zb h.head)).trans h.role, h.arr, fun k hk => (hl k (h.arr.lt k hk)).trans (h.arole k hk), fun i n hn => (h.need i n hn).later hl, h.blks⟩
theorem PoolAt.frame (h : PoolAt ρ w P x next v L) {S : Nat → Prop} (hf : Fp S w w') (h1 : ∀ k, ρ k = [0, 1] → ¬ S k) (h3 : ∀ k, ρ k = [0, 3] → ¬ S k) (hN : ∀ (i : Nat) n, L[i]? = some n → ∀ k, k < w.heap.size → NPart ρ n k → ¬ S k) : PoolAt ρ w' P x next v L :=
 ⟨hf.heap h.head (h1 P h.role), h.role, h.arr.frame hf (fun k hk => h3 k (h.arole k hk)), h.arole, fun i n hn => (h.need i n hn).frame hf (hN i n hn), h.blks⟩
theorem PoolAt.below (h : PoolAt ρ w P x next v L) (hb : Below w.heap.size w w') : PoolAt ρ w' P x next v L := h.frame (S := fun _ => False) (Fp.of_below hb) (fun _ _ h => h) (fun _ _ h => h) (fun _ _ _ _ _ _ h => h)
theorem ZdM {s : List Int} {k : Nat} {a b : Int} (h1 : Part ρ [0, 6, a] k) (h2 : ρ k = [0, b] ++ s) (hb : b ≠ 6) : False := by
 obtain ⟨t, ht⟩ := h1
 rw [h2] at ht
 simp at ht
 exact hb ht.1
theorem ZgZ {k a b : Nat} (h1 : Part ρ [0, 6, a] k) (h2 : Part ρ [0, 6, b] k) : a = b := by
 obtain ⟨t, ht⟩ := h1
 obtain ⟨u, hu⟩ := h2
 rw [ht] at hu
 simp at hu
 omega
theorem Zjk {n' : PN} (h : NeedAt ρ w q m n) (h' : NeedAt ρ w q m n') (hne : n.blk ≠ n'.blk) {k : Nat} (h1 : NPart ρ n k) (h2 : NPart ρ n' k) : False := by
 have key : ∀ {a b : Int} {p : PN} {c : PC}, b ≠ 6 → ρ k = [0, b, a] → c ∈ p.cls → Part ρ [0, 6, (c.blk : Int)] k → False := fun {a b p c} hb e _ hp => ZdM (s := [a]) hp e hb
 rcases h1 with e1 | e1 | e1 | ⟨c, hc, e1⟩ <;> rcases h2 with e2 | e2 | e2 | ⟨d, hd, e2⟩
 all_goals first
  | (rw [e1] at e2; simp at e2 <;> omega)
  | exact key (p := n') (by decide) e1 hd e2
  | exact key (p := n) (by decide) e2 hc e1
  | skip
 have e := ZgZ e1 e2
 obtain ⟨i, hi⟩ := List.getElem?_of_mem hc
 obtain ⟨j, hj⟩ := List.getElem?_of_mem hd
 have r1 := (h.cls i c hi).role
 have r2 := (h'.cls j d hj).role
 rw [e, r2] at r1
 simp at r1
 omega
/-! ### Changes -/
theorem PoolAt.head_set (h : PoolAt ρ w P x next v L) {next' : Int} (hF : Fp (fun j => j = P) w w') (hh : w'.heap[P]? = some (ppO x next' v)) : PoolAt ρ w' P x next' v L := by
 have hne : ∀ {k r}, ρ k = r → r ≠ [0, 1] → k ≠ P := fun {k r} e hr ek => hr (by rw [← e, ek]; exact h.role)
 refine ⟨hh, h.role, h.arr.frame hF (fun k hk => hne (h.arole k hk) (by decide)), h.arole, fun i n hn => (h.need i n hn).frame hF (fun k _ hp => ?_), h.blks⟩
 rcases hp with e | e | e | ⟨c, _, t, e⟩
 all_goals exact hne e (by simp)
theorem PoolAt.need_set (h : PoolAt ρ w P x next v L) {i : Nat} {n n' : PN} (hn : L[i]? = some n) (hb : n'.blk = n.blk) {S : Nat → Prop} (hF : Fp S w w') (hS : ∀ k, k < w.heap.size → S k → NPart ρ n k) (hN : NeedAt ρ w' x.q x.classes n') : PoolAt ρ w' P x next v (L.set i n') := by
 have hmap : (L.set i n').map PN.blk = L.map PN.blk := by
  rw [List.map_set, hb]
  apply List.ext_getElem?
  intro j
  by_cases e : j = i
  ·subst e
   rw [List.getElem?_map, hn, List.getElem?_set_self (by rw [List.length_map]; exact (List.getElem?_eq_some_iff.1 hn).1)]
   rfl
  ·rw [List.getElem?_set_ne (fun e' => e e'.symm)]
 have hno : ∀ {k : Nat} {b : Int}, k < w.heap.size → ρ k = [0, b] → ¬ S k := fun {k b} hk e hs => by
  rcases hS k hk hs with e1 | e1 | e1 | ⟨c, _, t, e1⟩ <;> · rw [e] at e1; simp at e1
 refine ⟨hF.heap h.head (hno (Zb h.head) h.role), h.role, by rw [hmap]; exact h.arr.frame hF (fun k hk => hno (h.arr.lt k hk) (h.arole k hk)), h.arole, fun j m hm => ?_, by rw [hmap]; exact h.blks⟩
 by_cases e : i = j
 ·subst e
  rw [List.getElem?_set_self (List.getElem?_eq_some_iff.1 hn).1] at hm
  cases hm
  exact hN
 ·rw [List.getElem?_set_ne e] at hm
  refine (h.need j m hm).frame hF (fun k hk hp hs => ?_)
  exact Zjk (h.need j m hm) (h.need i n hn) (fun eb => e (ZdL h.blks hn hm eb.symm)) hp (hS k hk hs)
theorem NeedAt.cls_set (h : NeedAt ρ w q m n) {k : Nat} {c c' : PC} (hc : n.cls[k]? = some c) (hb : c'.blk = c.blk) {S : Nat → Prop} (hF : Fp S w w') (hl : Later ρ ρ' w) (hS : ∀ j, j < w.heap.size → S j → j = c.blk ∨ Part ρ [0, 6, (c.blk : Int)] j) (hC : ClsAt ρ' w' q n.blk c') : NeedAt ρ' w' q m { n with cls := n.cls.set k c' } := by
 have hmap : (n.cls.set k c').map PC.blk = n.cls.map PC.blk := by
  rw [List.map_set, hb]
  apply List.ext_getElem?
  intro j
  by_cases e : j = k
  ·subst e
   rw [List.getElem?_map, hc, List.getElem?_set_self (by rw [List.length_map]; exact (List.getElem?_eq_some_iff.1 hc).1)]
   rfl
  ·rw [List.getElem?_set_ne (fun e' => e e'.symm)]
 have hcr := (h.cls k c hc).role
 have hno : ∀ {j : Nat} {b : Int}, j < w.heap.size → ρ j = [0, b, n.blk] → b ≠ 5 → b ≠ 6 → ¬ S j := fun {j b} hj e h5 h6 hs => by
  rcases hS j hj hs with e1 | ⟨t, e1⟩
  ·rw [e1, hcr] at e
   simp at e
   exact h5 e.symm
  ·rw [e] at e1
   simp at e1
   exact h6 e1.1
 refine ⟨hF.heap h.blk (hno (Zb h.blk) h.role (by decide) (by decide)), (hl _ (Zb h.blk)).trans h.role, by rw [hmap]; exact h.arr.frame hF (fun j hj => hno (h.arr.lt j hj) (h.arole j hj) (by decide) (by decide)), fun j hj => (hl j (h.arr.lt j hj)).trans (h.arole j hj), fun j d hd => ?_, by rw [List.length_set]; exact h.len, by rw [hmap]; exact h.once⟩
 by_cases e : k = j
 ·subst e
  rw [List.getElem?_set_self (List.getElem?_eq_some_iff.1 hc).1] at hd
  cases hd
  exact hC
 ·rw [List.getElem?_set_ne e] at hd
  have hcd : c.blk ≠ d.blk := fun eb => e (ZdL h.once hc hd eb)
  refine ((h.cls j d hd).later hl).frame hF (fun hs => ?_) (fun t ht hp hs => ?_)
  ·rcases hS _ (Zb (h.cls j d hd).blk) hs with e1 | ⟨t, e1⟩
   ·exact hcd e1.symm
   ·rw [(h.cls j d hd).role] at e1
    simp at e1
  ·have hp' : Part ρ [0, 6, (d.blk : Int)] t := by
    obtain ⟨u, hu⟩ := hp
    exact ⟨u, by rw [← hl t ht]; exact hu⟩
   rcases hS t ht hs with e1 | e1
   ·rw [e1] at hp'
    exact ZdM (s := [(n.blk : Int)]) hp' hcr (by decide)
   ·exact hcd (ZgZ e1 hp')
theorem Zia {k : Nat} (h : NeedAt ρ w q m n) {j : Nat} (hc : n.cls[k]? = some c) (hj : j = c.blk ∨ Part ρ [0, 6, (c.blk : Int)] j) : NPart ρ n j := by
 rcases hj with e | e
 ·exact .inr (.inr (.inl (by rw [e]; exact (h.cls k c hc).role)))
 ·exact .inr (.inr (.inr ⟨c, List.mem_of_getElem? hc, e⟩))
theorem PoolAt.turn (h : PoolAt ρ w P x next v L) {i k : Nat} {n : PN} {c : PC} (hn : L[i]? = some n) (hc : n.cls[k]? = some c) {gv' : Bool} {rows' : List TRow} (hl : Later ρ ρ' w) (hR : ShareAt [0, 6, (c.blk : Int)] ρ' w' c.f x.q gv' rows') (hF : Fp (Part ρ [0, 6, (c.blk : Int)]) w w') :
 PoolAt ρ' w' P x next v (L.set i { n with cls := n.cls.set k { c with gv := gv', rows := rows' } }) := by
 have hN := h.need i n hn
 have hC := hN.cls k c hc
 have hcF : w'.heap[c.blk]? = some (pcO c) := hF.heap hC.blk (fun ⟨t, e⟩ => by rw [hC.role] at e; simp at e)
 have hN' := hN.cls_set hc (c' := { c with gv := gv', rows := rows' }) rfl hF hl (fun j _ hj => .inr hj) ⟨hcF, (hl _ (Zb hC.blk)).trans hC.role, hR⟩
 refine (h.later hl).need_set hn rfl hF (fun j hj hs => ?_) hN'
 refine Zia (hN.later hl) hc (.inr ?_)
 obtain ⟨t, e⟩ := hs
 exact ⟨t, by rw [hl j hj]; exact e⟩
theorem PoolAt.served (h : PoolAt ρ w P x next v L) {i k : Nat} {n : PN} {c : PC} (hn : L[i]? = some n) (hc : n.cls[k]? = some c) {t : Int} (hF : Fp (fun j => j = c.blk) w w') (hh : w'.heap[c.blk]? = some (pcO { c with served := t })) :
 PoolAt ρ w' P x next v (L.set i { n with cls := n.cls.set k { c with served := t } }) := by
 have hN := h.need i n hn
 have hC := hN.cls k c hc
 have hN' := hN.cls_set hc (c' := { c with served := t }) rfl hF (Later.refl _ _) (fun j _ hj => .inl hj) ⟨hh, hC.role, hC.share.frame hF (fun j _ hp e => by rw [e] at hp; exact ZdM (s := [(n.blk : Int)]) hp hC.role (by decide))⟩
 exact h.need_set hn rfl hF (fun j hj hs => Zia hN hc (.inl hs)) hN'
theorem PoolAt.used (h : PoolAt ρ w P x next v L) {i : Nat} {n : PN} (hn : L[i]? = some n) {t : Int} (hF : Fp (fun j => j = n.blk) w w') (hh : w'.heap[n.blk]? = some (pnO { n with uses := t })) : PoolAt ρ w' P x next v (L.set i { n with uses := t }) := by
 have hN := h.need i n hn
 refine h.need_set hn rfl hF (fun j _ hj => .inl (by rw [hj]; exact hN.role)) ⟨hh, hN.role, hN.arr.frame hF (fun k hk e => by have h1 := hN.arole k hk; rw [e, hN.role] at h1; simp at h1), hN.arole, fun k c hc => ?_, hN.len, hN.once⟩
 have hC := hN.cls k c hc
 refine hC.frame hF (fun e => ?_) (fun j _ hp e => ?_)
 ·have h1 := hC.role
  rw [e, hN.role] at h1
  simp at h1
 ·rw [e] at hp
  exact ZdM (s := [(n.blk : Int)]) hp hN.role (by decide)
theorem PoolAt.gone (h : PoolAt ρ w P x next v L) {i : Nat} {v' : Value} {w1 : World} (hF : Fp (fun j => v.ownBlock = some j) w w1) (hA : ArrIn 72 w1 v' ((L.map PN.blk).eraseIdx i)) (hv : v'.ownBlock = v.ownBlock) (hF2 : Fp (fun j => j = P) w1 w') (hh : w'.heap[P]? = some (ppO x next v')) : PoolAt ρ w' P x next v' (L.eraseIdx i) := by
 have hne : ∀ {k r}, ρ k = r → r ≠ [0, 1] → k ≠ P := fun {k r} e hr ek => hr (by rw [← e, ek]; exact h.role)
 have hnv : ∀ {k r}, ρ k = r → r ≠ [0, 3] → ¬ v.ownBlock = some k := fun {k r} e hr ek => hr (by rw [← e]; exact h.arole k ek)
 have hmap : (L.eraseIdx i).map PN.blk = (L.map PN.blk).eraseIdx i := eraseIdx_map' PN.blk L i
 refine ⟨hh, h.role, by rw [hmap]; exact hA.frame hF2 (fun k hk => hne (h.arole k (hv ▸ hk)) (by decide)), fun k hk => h.arole k (hv ▸ hk), fun j n hn => ?_, by rw [hmap]; exact h.blks.sublist (List.eraseIdx_sublist _ _)⟩
 obtain ⟨j', hj'⟩ := List.getElem?_of_mem (List.mem_of_mem_eraseIdx (List.mem_of_getElem? hn))
 refine ((h.need j' n hj').frame hF (fun k _ hp => ?_)).frame hF2 (fun k _ hp => ?_)
 ·rcases hp with e | e | e | ⟨c, _, t, e⟩
  all_goals exact hnv e (by simp)
 ·rcases hp with e | e | e | ⟨c, _, t, e⟩
  all_goals exact hne e (by simp)
theorem PoolAt.join (h : PoolAt ρ w P x next v L) {n : PN} {v' : Value} {w1 : World} {next' : Int} (hN : NeedAt ρ w1 x.q x.classes n) (hnew : ∀ m ∈ L, m.blk ≠ n.blk) (hF : Fp (fun j => v.ownBlock = some j) w w1) (hA : ArrIn 72 w1 v' ((L ++ [n]).map PN.blk)) (hv : ∀ k, v'.ownBlock = some k → ρ k = [0, 3]) (hF2 : Fp (fun j => j = P) w1 w') (hh : w'.heap[P]? = some (ppO x next' v')) : PoolAt ρ w' P x next' v' (L ++ [n]) := by
 have hne : ∀ {k r}, ρ k = r → r ≠ [0, 1] → k ≠ P := fun {k r} e hr ek => hr (by rw [← e, ek]; exact h.role)
 have hnv : ∀ {k r}, ρ k = r → r ≠ [0, 3] → ¬ v.ownBlock = some k := fun {k r} e hr ek => hr (by rw [← e]; exact h.arole k ek)
 have hno : ∀ {m : PN} k, NPart ρ m k → k ≠ P := fun {m} k hp => by
  rcases hp with e | e | e | ⟨c, _, t, e⟩
  all_goals exact hne e (by simp)
 refine ⟨hh, h.role, hA.frame hF2 (fun k hk => hne (hv k hk) (by decide)), hv, fun j m hm => ?_, ?_⟩
 ·rcases List.mem_append.1 (List.mem_of_getElem? hm) with hm | hm
  ·obtain ⟨j', hj'⟩ := List.getElem?_of_mem hm
   refine ((h.need j' m hj').frame hF (fun k _ hp => ?_)).frame hF2 (fun k _ hp => hno k hp)
   rcases hp with e | e | e | ⟨c, _, t, e⟩
   all_goals exact hnv e (by simp)
  ·rw [List.mem_singleton] at hm
   subst hm
   exact hN.frame hF2 (fun k _ hp => hno k hp)
 ·rw [List.map_append, List.nodup_append]
  refine ⟨h.blks, by simp, fun a ha b hb e => ?_⟩
  obtain ⟨m, hm, rfl⟩ := List.mem_map.1 ha
  simp at hb
  exact hnew m hm (e.trans hb)
end
def eqS (a b : ByteArray) : Bool := a.toList == b.toList
def ZR (s : ByteArray) (ns : List PN) : Int := match ns.findIdx? (fun n => eqS n.name s) with
 | some k => k
 | none => -1
theorem Zg0 {s : ByteArray} {ns : List PN} {k : Nat} {x : PN} (hx : ns[k]? = some x) (e : eqS x.name s = true) (hb : ∀ j y, j < k → ns[j]? = some y → eqS y.name s = false) : ZR s ns = k := by
 obtain ⟨hk, he⟩ := List.getElem?_eq_some_iff.1 hx
 have : ns.findIdx? (fun n => eqS n.name s) = some k := List.findIdx?_eq_some_iff_getElem.2 ⟨hk, by rw [he]; exact e, fun j hj => by
  have := hb j _ hj (List.getElem?_eq_getElem (by omega))
  simp [this]⟩
 unfold ZR
 rw [this]
theorem Zfl {s : ByteArray} {ns : List PN} (h : ∀ j y, j < ns.length → ns[j]? = some y → eqS y.name s = false) : ZR s ns = -1 := by
 have : ns.findIdx? (fun n => eqS n.name s) = none := List.findIdx?_eq_none_iff.2 (fun y hy => by
  obtain ⟨j, hj⟩ := List.getElem?_of_mem hy
  simp [h j y (List.getElem?_eq_some_iff.1 hj).1 hj])
 unfold ZR
 rw [this]
theorem ZcT (s : ByteArray) (ns : List PN) : (ZR s ns = -1 ∧ ∀ n ∈ ns, eqS n.name s = false) ∨ ∃ (k : Nat) (n : PN), ZR s ns = k ∧ ns[k]? = some n ∧ eqS n.name s = true := by
 unfold ZR
 cases h : ns.findIdx? (fun n => eqS n.name s) with
 | none => exact .inl ⟨rfl, fun n hn => by simpa using List.findIdx?_eq_none_iff.1 h n hn⟩
 | some k =>
   obtain ⟨hk, he, _⟩ := List.findIdx?_eq_some_iff_getElem.1 h
   exact .inr ⟨k, ns[k], rfl, List.getElem?_eq_getElem hk, he⟩
theorem PoolAt.n0 {ρ : Roles} {w : World} {P : Nat} {x : PX} {next : Int} {v : Value} {L : List PN} (h : PoolAt ρ w P x next v L) {i : Nat} {n : PN} (hn : L[i]? = some n) : w.cell? ⟨n.blk, 0, none⟩ = some (.string n.name) := Za (h.need i n hn).blk rfl
theorem PoolAt.at {ρ : Roles} {w : World} {P : Nat} {x : PX} {next : Int} {v : Value} {L : List PN} (h : PoolAt ρ w P x next v L) {i : Nat} {n : PN} (hn : L[i]? = some n) : ∃ g off cap, v = .slice (some ⟨g, off, none⟩) L.length cap ∧ w.cell? ⟨g, off + i, none⟩ = some (.pointer (some ⟨n.blk, 0, none⟩)) := by
 obtain ⟨g, off, cap, hv, hc⟩ := h.arr.at (i := i) (b := n.blk) (by simp [hn])
 rw [List.length_map] at hv
 exact ⟨g, off, cap, hv, hc⟩
theorem PoolAt.form {ρ : Roles} {w : World} {P : Nat} {x : PX} {next : Int} {v : Value} {L : List PN} (h : PoolAt ρ w P x next v L) : ∃ a cap, v = .slice a L.length cap ∧ L.length ≤ cap := by
 obtain ⟨a, cap, hv, hc⟩ := h.arr.form
 rw [List.length_map] at hv hc
 exact ⟨a, cap, hv, hc⟩
theorem NeedAt.at {ρ : Roles} {w : World} {q : Int} {m : Nat} {n : PN} (h : NeedAt ρ w q m n) {k : Nat} {c : PC} (hc : n.cls[k]? = some c) : ∃ g off cap, n.cv = .slice (some ⟨g, off, none⟩) n.cls.length cap ∧ w.cell? ⟨g, off + k, none⟩ = some (.pointer (some ⟨c.blk, 0, none⟩)) := by
 obtain ⟨g, off, cap, hv, hc⟩ := h.arr.at (i := k) (b := c.blk) (by simp [hc])
 rw [List.length_map] at hv
 exact ⟨g, off, cap, hv, hc⟩
theorem NeedAt.form {ρ : Roles} {w : World} {q : Int} {m : Nat} {n : PN} (h : NeedAt ρ w q m n) : ∃ a cap, n.cv = .slice a n.cls.length cap ∧ n.cls.length ≤ cap := by
 obtain ⟨a, cap, hv, hc⟩ := h.arr.form
 rw [List.length_map] at hv hc
 exact ⟨a, cap, hv, hc⟩
set_option maxRecDepth 100000 in
set_option maxHeartbeats 1000000 in
theorem Zkt (B nb : Nat) (s t : ByteArray) (w : World) (h1 : w.cell? ⟨B, 0, none⟩ = some (.string s)) (h2 : w.cell? ⟨nb, 0, none⟩ = some (.string t)) :
 Calls Tryz.prog 56 #[.pointer (some ⟨nb, 0, none⟩), .pointer (some ⟨B, 0, none⟩)] w fun e w' => e = .returned (.bool (eqS t s)) ∧ Below w.heap.size w w' := by
 go_enter Tryz.func56, Tryz.ntmps56
 go_wp2
 go_quiet (fail)
 go_wp2
 go_ret
 exact ⟨rfl, ZO (Below.refl _ _) _⟩
def PFRel (s : ByteArray) (ns : List PN) (w : World) (i : Value) (wr : World) : Prop := ∃ k : Nat, i = .int .i64 k ∧ k ≤ ns.length ∧ (∀ j y, j < k → ns[j]? = some y → eqS y.name s = false) ∧ Below w.heap.size w wr
section
variable {ρ : Roles} {P : Nat} {x : PX} {next : Int} {v : Value} {L : List PN}
set_option maxRecDepth 100000 in
set_option maxHeartbeats 1000000 in
theorem Zjl (B : Nat) (s : ByteArray) (w : World) (hS : PoolAt ρ w P x next v L) (hf : L.length ≤ 1000000) (hc : w.cell? ⟨B, 0, none⟩ = some (.string s)) :
 Calls Tryz.prog 55 #[v, .func (.func 56) #[] #[.pointer (some ⟨B, 0, none⟩)]] w fun e w' => e = .returned (.int .i64 (ZR s L)) ∧ Below w.heap.size w w' := by
 have HS := Lib.hid hS
 have HK := Lib.hid hc
 obtain ⟨a, cap, rfl, -⟩ := hS.form
 have hfew := hf
 clear hS hc hf
 go_enter Tryz.func55, Tryz.ntmps55
 go_wp2
 go_loopw [8] (fun i wr => PFRel s L w i wr) (fun i _ => L.length - (intOf i).toNat)
 case atStart => exact ⟨0, rfl, Nat.zero_le _, (fun j y hj => by omega), Below.refl _ _⟩
 case round =>
  obtain ⟨k, rfl, hk, hn, hb⟩ := hrel
  have HB := Lib.hid hb
  have HN := Lib.hid hn
  clear hb hn
  by_cases hlt : k < L.length
  ·obtain ⟨y, hy⟩ : ∃ y, L[k]? = some y := ⟨_, List.getElem?_eq_getElem hlt⟩
   obtain ⟨g, off, cap', hv, hc⟩ := HS.out.at hy
   cases hv
   have d0 := Zc HB.out hc
   have HX := Lib.hid hy
   clear hy hc
   go_wp2_with fail
   refine (Zkt B y.blk s y.name _ (Zc HB.out HK.out) (Zc HB.out (HS.out.n0 HX.out))).mono ?_
   rintro e w1 ⟨rfl, hb1⟩
   have HB1 := Lib.hid (HB.out.trans (hb1.mono HB.out.size))
   clear hb1 d0
   rcases hp : eqS y.name s with _ | _
   ·have HP := Lib.hid hp
    clear hp
    go_wp2_with fail
    go_roundw
    case rel =>
     refine ⟨k + 1, by go_num, by omega, fun j z hj hz => ?_, HB1.out⟩
     rcases Nat.lt_or_ge j k with h | h
     ·exact HN.out j z h hz
     ·obtain rfl : j = k := by omega
      obtain rfl : y = z := Option.some.inj (HX.out.symm.trans hz)
      exact HP.out
    case measure => simp [intOf]; omega
   ·have HP := Lib.hid (Zg0 HX.out hp HN.out)
    clear hp
    go_wp2_with fail
    go_ret
    exact ⟨ZM HP.out.symm, HB1.out⟩
  ·have HP := Lib.hid (Zfl (s := s) (ns := L) (fun j y hj hy => HN.out j y (by omega) hy))
   go_wp2
   go_ret
   exact ⟨ZM HP.out.symm, HB.out⟩
set_option maxRecDepth 100000 in
set_option maxHeartbeats 1000000 in
theorem Zbn (s : ByteArray) (w : World) (hS : PoolAt ρ w P x next v L) (hf : L.length ≤ 1000000) :
 Calls Tryz.prog 27 #[.pointer (some ⟨P, 0, none⟩), .string s] w fun e w' => e = .returned (.int .i64 (ZR s L)) ∧ Below w.heap.size w w' := by
 have HS := Lib.hid hS
 have HF := Lib.hid hf
 have c4 : w.cell? ⟨P, 4, none⟩ = some v := Za hS.head rfl
 have hlt := Zb hS.head
 clear hS hf
 go_enter Tryz.func27, Tryz.ntmps27
 go_wp2_with fail
 refine (Zjl _ s _ (HS.out.below box_below) HF.out (by simp)).mono ?_
 rintro e w1 ⟨rfl, hb1⟩
 go_wp2
 go_ret
 exact ⟨rfl, box_below.trans (hb1.mono (by simp))⟩
set_option maxRecDepth 100000 in
set_option maxHeartbeats 1000000 in
theorem Zeq (w : World) (hS : PoolAt ρ w P x next v L) (hn : 0 ≤ next ∧ next < 1000000000) :
 Calls Tryz.prog 28 #[.pointer (some ⟨P, 0, none⟩)] w fun e w' => e = .returned (.int .i64 next) ∧ Fp (fun j => j = P) w w' ∧ w'.heap[P]? = some (ppO x (next + 1) v) := by
 have HS := Lib.hid hS
 have c3 : w.cell? ⟨P, 3, none⟩ = some (.int .i64 next) := Za hS.head rfl
 have f3 : w.frozen? ⟨P, 3, none⟩ = false := Zd hS.head
 have e1 : wrap64 (next + 1) = next + 1 := by unfold wrap64; omega
 have e2 : wrap64 next = next := by unfold wrap64; omega
 clear hS hn
 go_enter Tryz.func28, Tryz.ntmps28
 go_upto_region 2 with fail
 try rw [e1]
 obtain ⟨w1, hw1⟩ : ∃ w1 : World, w1 = w.setCell ⟨P, 3, none⟩ (.int .i64 (next + 1)) := ⟨_, rfl⟩
 rw [← hw1]
 have hh : w1.heap[P]? = some (ppO x (next + 1) v) := by rw [hw1]; exact Ze HS.out.head
 have HH := Lib.hid hh
 have HF := Lib.hid (show Fp (fun j => j = P) w w1 by rw [hw1]; exact (Fp.refl (fun j => j = P) w).setCell (p := ⟨P, 3, none⟩) (fun _ => rfl) _)
 have d3 : w1.cell? ⟨P, 3, none⟩ = some (.int .i64 (next + 1)) := Za hh rfl
 clear hw1 hh c3 f3 e1
 go_wp2_with fail
 go_ret
 exact ⟨ZM e2, HF.out, HH.out⟩
set_option maxRecDepth 100000 in
set_option maxHeartbeats 2000000 in
theorem Zdg (s : ByteArray) (i k : Nat) (n : PN) (c : PC) (w : World) (hS : PoolAt ρ w P x next v L) (hf : L.length ≤ 1000000) (hp : ZR s L = i) (hn : L[i]? = some n) (hc : n.cls[k]? = some c) (_hx : x.classes ≤ 1000000) :
 Calls Tryz.prog 30 #[.pointer (some ⟨P, 0, none⟩), .string s, .int .i64 k] w fun e w' => e = .returned (.pointer (some ⟨c.f, 0, none⟩)) ∧ Below w.heap.size w w' := by
 have HS := Lib.hid hS
 have HF := Lib.hid hf
 have HP := Lib.hid hp
 have HN := Lib.hid hn
 have HC := Lib.hid hc
 have hil : i < L.length := (List.getElem?_eq_some_iff.1 hn).1
 have hkl : k < n.cls.length := (List.getElem?_eq_some_iff.1 hc).1
 have hlen := (hS.need i n hn).len
 clear hS hp hn hc
 go_enter Tryz.func30, Tryz.ntmps30
 go_wp2_with fail
 refine (Zbn s _ HS.out HF.out).mono ?_
 rintro e w1 ⟨rfl, hb1⟩
 rw [HP.out]
 have HB1 := Lib.hid hb1
 have hS1 := HS.out.below hb1
 have hN1 := hS1.need i n HN.out
 obtain ⟨g, off, cap, hv, hg⟩ := hS1.at HN.out
 obtain ⟨g2, off2, cap2, hv2, hg2⟩ := hN1.at HC.out
 have c1 : w1.cell? ⟨P, 1, none⟩ = some (.int .i64 x.classes) := Za hS1.head rfl
 have c4 : w1.cell? ⟨P, 4, none⟩ = some (.slice (some ⟨g, off, none⟩) L.length cap) := by rw [← hv]; exact Za hS1.head rfl
 have n2 : w1.cell? ⟨n.blk, 2, none⟩ = some (.slice (some ⟨g2, off2, none⟩) n.cls.length cap2) := by rw [← hv2]; exact Za hN1.blk rfl
 have k1 : w1.cell? ⟨c.blk, 1, none⟩ = some (.pointer (some ⟨c.f, 0, none⟩)) := Za (hN1.cls k c HC.out).blk rfl
 have h1 : ¬ (x.classes : Int) ≤ k := by omega
 have h2 : (i : Int) < (L.length : Int) := by omega
 have h3 : (k : Int) < (n.cls.length : Int) := by omega
 clear hb1 hS1 hN1 hv hv2
 go_wp2_with fail
 go_ret
 exact ⟨rfl, HB1.out⟩
end
end Go.Proofs.YtdbjihkgafhakaaGreatDoor
