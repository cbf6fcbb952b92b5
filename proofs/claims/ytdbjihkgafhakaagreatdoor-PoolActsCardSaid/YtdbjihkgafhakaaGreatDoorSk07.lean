/-
  ref15 (flows): how the document's ring lies in memory; Find, with: the walks.
  flow.Ring: load, Load: the walks.
-/
import Derived.Test.YtdbjihkgafhakaaGreatDoorSk04
import Derived.Test.YtdbjihkgafhakaaGreatDoorSk06
import Derived.Deep.DeepCutAuto
import Derived.BigQuiet
import Derived.Lib.QuietBelow
namespace Go.Proofs.YtdbjihkgafhakaaGreatDoor
open Go.RowKit
def InG (G : Nat → Prop) (w : World) (v : Value) : Prop := ∀ k, v.ownBlock = some k → G k ∧ k < w.heap.size
theorem InG.grow {G : Nat → Prop} {w w' : World} {v : Value} (h : InG G w v) (hs : w.heap.size ≤ w'.heap.size) : InG G w' v := fun k hk => ⟨(h k hk).1, Nat.lt_of_lt_of_le (h k hk).2 hs⟩
theorem InG.not {G : Nat → Prop} {w : World} {v : Value} {b : Nat} (h : InG G w v) (hb : ¬ G b) : v.ownBlock ≠ some b := fun e => hb (h b e).1
theorem own_inG {G : Nat → Prop} {w : World} {base size : Nat} {e : TypeId} {v : Value} {n : Nat} {xs : List Value} (h : w.ownsRow base e size v n xs) (hG : ∀ k, base ≤ k → G k) : InG G w v := fun k hk => ⟨hG k (own_block h k hk), own_lt h k (mem_blk.2 hk)⟩
variable {G : Nat → Prop}
structure RowsAt (w : World) (v : Value) (l : List (FRow × Value)) : Prop where
  rows : ∃ a cap, v = .slice a l.length cap ∧ l.length ≤ cap ∧ ∀ (j : Nat) u, (flatRV l)[j]? = some u → ∃ g off, a = some ⟨g, off, none⟩ ∧ w.cell? ⟨g, off + j, none⟩ = some u
  its : ∀ p ∈ l, ItsAt w p.2 p.1.its
theorem ItsAt.fp {S : Nat → Prop} {w w' : World} {v : Value} {l : List It} (h : ItsAt w v l) (hF : Fp S w w') (hS : ∀ k, v.ownBlock = some k → ¬ S k) : ItsAt w' v l := by
  obtain ⟨a, cap, rfl, hc⟩ := h
  exact ⟨a, cap, rfl, fun j u hu => by obtain ⟨g, off, rfl, h0⟩ := hc j u hu; exact ⟨g, off, rfl, hF.cell h0 (hS g rfl)⟩⟩
theorem RowsAt.fp {S : Nat → Prop} {w w' : World} {v : Value} {l : List (FRow × Value)} (h : RowsAt w v l) (hF : Fp S w w') (hS : ∀ k, v.ownBlock = some k → ¬ S k) (hI : ∀ p ∈ l, ∀ k, p.2.ownBlock = some k → ¬ S k) : RowsAt w' v l := by
  obtain ⟨⟨a, cap, rfl, hle, hc⟩, hi⟩ := h
  exact ⟨⟨a, cap, rfl, hle, fun j u hu => by obtain ⟨g, off, rfl, h0⟩ := hc j u hu; exact ⟨g, off, rfl, hF.cell h0 (hS g rfl)⟩⟩, fun p hp => (hi p hp).fp hF (hI p hp)⟩
theorem RowsAt.fp' {S : Nat → Prop} {w w' : World} {v : Value} {l : List (FRow × Value)} (h : RowsAt w v l) (hF : Fp S w w') (hS : l ≠ [] → ∀ k, v.ownBlock = some k → ¬ S k) (hI : ∀ p ∈ l, ∀ k, p.2.ownBlock = some k → ¬ S k) : RowsAt w' v l := by
  by_cases hl : l = []
  · subst hl
    obtain ⟨⟨a, cap, rfl, hle, _⟩, _⟩ := h
    exact ⟨⟨a, cap, rfl, hle, fun j u hu => by simp [flatRV] at hu⟩, fun p hp => by cases hp⟩
  · exact h.fp hF (hS hl) hI
theorem RowsAt.below {w w' : World} {v : Value} {l : List (FRow × Value)} (h : RowsAt w v l) (hb : Below w.heap.size w w') : RowsAt w' v l := h.fp (S := fun _ => False) (Fp.of_below hb) (fun _ _ h => h) (fun _ _ _ _ h => h)
theorem RowsAt.form {w : World} {v : Value} {l : List (FRow × Value)} (h : RowsAt w v l) : ∃ a cap, v = .slice a l.length cap ∧ l.length ≤ cap := by
  obtain ⟨⟨a, cap, hv, hle, _⟩, _⟩ := h
  exact ⟨a, cap, hv, hle⟩
theorem RowsAt.at {w : World} {v : Value} {l : List (FRow × Value)} (h : RowsAt w v l) {k : Nat} {p : FRow × Value} (hp : l[k]? = some p) : ∃ g off cap, v = .slice (some ⟨g, off, none⟩) l.length cap ∧ l.length ≤ cap ∧ w.cell? ⟨g, off + k * 4, none⟩ = some (.int .i64 p.1.id) ∧ w.cell? ⟨g, off + k * 4 + 1, none⟩ = some (.int .i64 p.1.wt) ∧
    w.cell? ⟨g, off + k * 4 + 2, none⟩ = some (.int .i64 p.1.df) ∧ w.cell? ⟨g, off + k * 4 + 3, none⟩ = some p.2 := by
  obtain ⟨⟨a, cap, rfl, hle, hc⟩, _⟩ := h
  have key : ∀ i u, (encRV p)[i]? = some u → (flatRV l)[k * 4 + i]? = some u := fun i u hu => by
    have hi : i < 4 := (List.getElem?_eq_some_iff.1 hu).1
    unfold flatRV
    rw [flat_at encRV 4 encRV_len i hp hi]
    exact hu
  obtain ⟨g, off, rfl, h0⟩ := hc _ _ (key 0 _ rfl)
  have get : ∀ i u, (encRV p)[i]? = some u → w.cell? ⟨g, off + k * 4 + i, none⟩ = some u := fun i u hu => by
    obtain ⟨g', off', he, h1⟩ := hc _ _ (key i u hu)
    cases he
    rw [Nat.add_assoc]
    exact h1
  exact ⟨g, off, cap, rfl, hle, get 0 _ rfl, get 1 _ rfl, get 2 _ rfl, get 3 _ rfl⟩
theorem rows_own {T : TypeId} {w : World} {base : Nat} {v : Value} {l : List (FRow × Value)} (h : w.ownsRow base T 4 v l.length (flatRV l)) (hi : ∀ p ∈ l, ItsAt w p.2 p.1.its) : RowsAt w v l := by
  obtain ⟨a, cap, rfl, hle, _, _, hc⟩ := own_cells h
  exact ⟨⟨a, cap, rfl, hle, fun j u hu => by obtain ⟨g, ha, _, _, h0, _⟩ := hc j u hu; exact ⟨g, 0, ha, by rw [Nat.zero_add]; exact h0⟩⟩, hi⟩
structure RefAt (G : Nat → Prop) (w : World) (b : Nat) (q : Int) (gv : Bool) (v : Value) (l : List (FRow × Value)) : Prop where
  head : w.heap[b]? = some (.cells #[.int .i64 q, v, .bool gv] 104 (0, 0))
  rows : RowsAt w v l
  vg : l ≠ [] → InG G w v
  ig : ∀ p ∈ l, InG G w p.2
  nb : ¬ G b
  up : ∀ k, w.heap.size ≤ k → G k
  few : l.length ≤ 1000000
  fews : ∀ p ∈ l, p.1.its.length ≤ 1000000
theorem RefAt.below {w w' : World} {b : Nat} {q : Int} {gv : Bool} {v : Value} {l : List (FRow × Value)} (h : RefAt G w b q gv v l) (hb : Below w.heap.size w w') : RefAt G w' b q gv v l :=
  ⟨(hb.block b (fp_lt_of_heap h.head)).trans h.head, h.rows.below hb, fun hl => (h.vg hl).grow hb.size, fun p hp => (h.ig p hp).grow hb.size, h.nb, fun k hk => h.up k (Nat.le_trans hb.size hk), h.few, h.fews⟩
theorem RefAt.nv {w : World} {b : Nat} {q : Int} {gv : Bool} {v : Value} {l : List (FRow × Value)} (h : RefAt G w b q gv v l) (hl : l ≠ []) : v.ownBlock ≠ some b := (h.vg hl).not h.nb
theorem RefAt.ni {w : World} {b : Nat} {q : Int} {gv : Bool} {v : Value} {l : List (FRow × Value)} (h : RefAt G w b q gv v l) : ∀ p ∈ l, p.2.ownBlock ≠ some b := fun p hp => (h.ig p hp).not h.nb
theorem RefAt.fp {S : Nat → Prop} {w w' : World} {b : Nat} {q : Int} {gv : Bool} {v : Value} {l : List (FRow × Value)} (h : RefAt G w b q gv v l) (hF : Fp S w w') (h0 : ¬ S b) (hS : ∀ k, v.ownBlock = some k → ¬ S k) (hI : ∀ p ∈ l, ∀ k, p.2.ownBlock = some k → ¬ S k) : RefAt G w' b q gv v l :=
  ⟨hF.heap h.head h0, h.rows.fp hF hS hI, fun hl => (h.vg hl).grow hF.size, fun p hp => (h.ig p hp).grow hF.size, h.nb, fun k hk => h.up k (Nat.le_trans hF.size hk), h.few, h.fews⟩
def placeF (id : Int) (rows : List FRow) : Int := match findF id rows with
  | some k => k
  | none => -1
theorem findF_of {id : Int} : ∀ {l : List FRow} {k : Nat} {x : FRow}, l[k]? = some x → x.id = id → (∀ j y, j < k → l[j]? = some y → y.id ≠ id) → findF id l = some k
  | [], _, _, h, _, _ => by simp at h
  | y :: r, 0, x, h, hp, _ => by
    simp at h
    subst h
    simp [findF, List.findIdx?_cons, hp]
  | y :: r, k + 1, x, h, hp, hn => by
    have h0 := hn 0 y (by omega) rfl
    have ih := findF_of (l := r) (k := k) (by simpa using h) hp (fun j z hj hz => hn (j + 1) z (by omega) (by simpa using hz))
    unfold findF at ih ⊢
    simp [List.findIdx?_cons, h0]
    exact ih
theorem findF_none {id : Int} {l : List FRow} (hn : ∀ j y, j < l.length → l[j]? = some y → y.id ≠ id) : findF id l = none := by
  unfold findF
  rw [List.findIdx?_eq_none_iff]
  intro x hx
  obtain ⟨j, hj, rfl⟩ := List.getElem_of_mem hx
  have := hn j _ hj (List.getElem?_eq_getElem hj)
  simpa using this
set_option maxRecDepth 100000 in
set_option maxHeartbeats 1000000 in
theorem r15Find_any (id q : Int) (gv : Bool) (v : Value) (l : List (FRow × Value)) (w : World) (h : RowsAt w v l) (hf : l.length ≤ 1000000) : Calls Tryz.prog 110 #[.agg #[.int .i64 q, v, .bool gv], .int .i64 id] w fun e w' => e = .returned (.int .i64 (placeF id (l.map Prod.fst))) ∧ Below w.heap.size w w' := by
  have HI := Lib.hid (h.below (box_below (o := .cells #[.int .i64 q, v, .bool gv] 104)))
  obtain ⟨a, cap, rfl, -⟩ := h.form
  clear h
  go_enter Tryz.func110, Tryz.ntmps110
  go_wp2_with fail
  obtain ⟨w1, hw1⟩ : ∃ w1 : World, w1 = w.alloc (.cells #[.int .i64 q, .slice a l.length cap, .bool gv] 104) := ⟨_, rfl⟩
  rw [← hw1] at HI ⊢
  have b1 : w1.cell? ⟨w.heap.size, 1, none⟩ = some (.slice a l.length cap) := by rw [hw1]; exact cell_alloc_at rfl
  have HB := Lib.hid (show Below w.heap.size w w1 by rw [hw1]; exact box_below)
  clear hw1
  go_loopg [5] l.length (fun g i wr => ∃ k : Nat, g = l.length - k ∧ i = .int .i64 k ∧ k ≤ l.length ∧ (∀ j y, j < k → (l.map Prod.fst)[j]? = some y → y.id ≠ id) ∧ wr = w1)
  case atStart => exact ⟨0, rfl, rfl, Nat.zero_le _, (fun j y hj => by omega), rfl⟩
  case round =>
    obtain ⟨k, hg, rfl, hk, hn, rfl⟩ := hrel
    have HG := Lib.hid hg
    have HN := Lib.hid hn
    clear hg hn
    by_cases hlt : k < l.length
    · obtain ⟨p, hp⟩ : ∃ p, l[k]? = some p := ⟨_, List.getElem?_eq_getElem hlt⟩
      obtain ⟨g, off, cap', hv, _, c0, _⟩ := HI.out.at hp
      cases hv
      have HX := Lib.hid (show (l.map Prod.fst)[k]? = some p.1 by rw [List.getElem?_map, hp]; rfl)
      have hkl : (k : Int) < (l.length : Int) := by omega
      clear hp
      by_cases hq : p.1.id = id
      · have HP := Lib.hid (show placeF id (l.map Prod.fst) = k by unfold placeF; rw [findF_of HX.out hq HN.out])
        have hpb : (p.1.id == id) = true := beq_iff_eq.2 hq
        clear hq
        go_wp2_with fail
        go_ret
        exact ⟨ret_int HP.out.symm, HB.out⟩
      · have HP := Lib.hid hq
        have hpb : (p.1.id == id) = false := beq_eq_false_iff_ne.2 hq
        clear hq
        go_wp2_with fail
        go_roundg (l.length - (k + 1))
        case rel =>
          refine ⟨k + 1, rfl, by go_num, by omega, fun j y hj hy => ?_, rfl⟩
          rcases Nat.lt_or_ge j k with h | h
          · exact HN.out j y h hy
          · obtain rfl : j = k := by omega
            obtain rfl : p.1 = y := Option.some.inj (HX.out.symm.trans hy)
            exact HP.out
        case measure => have := HG.out; omega
    · have HP := Lib.hid (show placeF id (l.map Prod.fst) = -1 by unfold placeF; rw [findF_none (fun j y hj hy => HN.out j y (by rw [List.length_map] at hj; omega) hy)])
      go_wp2_with fail
      go_ret
      exact ⟨ret_int HP.out.symm, HB.out⟩
end Go.Proofs.YtdbjihkgafhakaaGreatDoor
/-
  ref15 (flows): with: the walk.
-/
namespace Go.Proofs.YtdbjihkgafhakaaGreatDoor
open Go.RowKit
variable {G : Nat → Prop}
def withV (k : Nat) (p : FRow × Value) (gv : Bool) (l : List (FRow × Value)) : Bool × List (FRow × Value) := if p.1.its = [] then (if k = 0 then false else gv, l.eraseIdx k) else (gv, l.set k p)
theorem withV_rows (k : Nat) (p : FRow × Value) (gv : Bool) (l : List (FRow × Value)) : (withV k p gv l).1 = (withR k p.1 gv (l.map Prod.fst)).1 ∧ (withV k p gv l).2.map Prod.fst = (withR k p.1 gv (l.map Prod.fst)).2 := by
  unfold withV withR
  split
  · exact ⟨rfl, eraseIdx_map' _ _ _⟩
  · exact ⟨rfl, set_map _ _ _ _⟩
def builtV (k : Nat) (p : FRow × Value) (l : List (FRow × Value)) (i : Nat) : List (FRow × Value) := if i ≤ k then l.take i else if p.1.its = [] then (l.take i).eraseIdx k else (l.take i).set k p
theorem erase_app {α : Type} : ∀ (l : List α) (y : α) (k : Nat), k < l.length → (l ++ [y]).eraseIdx k = l.eraseIdx k ++ [y]
  | [], _, _, h => by simp at h
  | _ :: _, _, 0, _ => rfl
  | x :: l, y, k + 1, h => by
    simp at h
    simp [erase_app l y k h]
theorem set_app {α : Type} : ∀ (l : List α) (y x : α) (k : Nat), k < l.length → (l ++ [y]).set k x = l.set k x ++ [y]
  | [], _, _, _, h => by simp at h
  | _ :: _, _, _, 0, _ => rfl
  | z :: l, y, x, k + 1, h => by
    simp at h
    simp [set_app l y x k h]
theorem erase_lastV {α : Type} : ∀ (l : List α) (y : α), (l ++ [y]).eraseIdx l.length = l
  | [], _ => rfl
  | x :: l, y => by simp [erase_lastV l y]
theorem set_last {α : Type} : ∀ (l : List α) (y x : α), (l ++ [y]).set l.length x = l ++ [x]
  | [], _, _ => rfl
  | z :: l, y, x => by simp [set_last l y x]
theorem built_other {k i : Nat} {p y : FRow × Value} {l : List (FRow × Value)} (hy : l[i]? = some y) (hik : i ≠ k) : builtV k p l (i + 1) = builtV k p l i ++ [y] := by
  have hi : i < l.length := (List.getElem?_eq_some_iff.1 hy).1
  have ht : l.take (i + 1) = l.take i ++ [y] := by rw [List.take_succ_eq_append_getElem hi, (List.getElem?_eq_some_iff.1 hy).2]
  unfold builtV
  by_cases h : i < k
  · rw [if_pos (show i + 1 ≤ k by omega), if_pos (show i ≤ k by omega), ht]
  · have hl : k < (l.take i).length := by rw [List.length_take]; omega
    rw [if_neg (show ¬ i + 1 ≤ k by omega), if_neg (show ¬ i ≤ k by omega), ht]
    split
    · exact erase_app _ _ _ hl
    · exact set_app _ _ _ _ hl
theorem built_same {k : Nat} {p : FRow × Value} {l : List (FRow × Value)} (hk : k < l.length) : builtV k p l (k + 1) = builtV k p l k ++ (if p.1.its = [] then [] else [p]) := by
  have ht : l.take (k + 1) = l.take k ++ [l[k]] := List.take_succ_eq_append_getElem hk
  have hl : (l.take k).length = k := by rw [List.length_take]; omega
  unfold builtV
  rw [if_neg (by omega), if_pos (Nat.le_refl _), ht]
  split
  · have h := erase_lastV (l.take k) l[k]
    rw [hl] at h
    rw [h, List.append_nil]
  · have h := set_last (l.take k) l[k] p
    rw [hl] at h
    exact h
theorem built_all {k : Nat} {p : FRow × Value} {gv : Bool} {l : List (FRow × Value)} (hk : k < l.length) : builtV k p l l.length = (withV k p gv l).2 := by
  unfold builtV withV
  rw [if_neg (by omega), List.take_of_length_le (Nat.le_refl _)]
  split <;> rfl
theorem built_len {k i : Nat} {p : FRow × Value} {l : List (FRow × Value)} : (builtV k p l i).length ≤ i := by
  unfold builtV
  split
  · rw [List.length_take]; omega
  · split
    · exact Nat.le_trans (List.length_eraseIdx_le _ _) (by rw [List.length_take]; omega)
    · rw [List.length_set, List.length_take]; omega
theorem with_mem {k : Nat} {p y : FRow × Value} {gv : Bool} {l : List (FRow × Value)} (h : y ∈ (withV k p gv l).2) : y ∈ l ∨ y = p := by
  unfold withV at h
  split at h
  · exact .inl (List.mem_of_mem_eraseIdx h)
  · exact mem_set h
theorem with_len {k : Nat} {p : FRow × Value} {gv : Bool} {l : List (FRow × Value)} : (withV k p gv l).2.length ≤ l.length := by
  unfold withV
  split
  · exact List.length_eraseIdx_le _ _
  · rw [List.length_set]; exact Nat.le_refl _
theorem rrow_info : (Tryz.prog.info? 157).map (fun i => (i.zero, i.size, i.bytes)) = some (some (.agg #[.int .i64 0, .int .i64 0, .int .i64 0, .slice none 0 0]), 4, 48) := by kernel_rfl
end Go.Proofs.YtdbjihkgafhakaaGreatDoor
/-
  ref15 (flows): Pick: the walk.
-/
namespace Go.Proofs.YtdbjihkgafhakaaGreatDoor
open Go.RowKit
variable {G : Nat → Prop}
def ndOf (r : FRow) : Nd := ⟨r.id, r.wt, r.df, 0, undef⟩
theorem ndOf_charge (q : Int) (gv : Bool) (r : FRow) : ndOf (chargeR q gv r) = charge q gv (ndOf r) := by cases gv <;> rfl
structure RowsOk (gv : Bool) (rows : List FRow) : Prop where
  nds : NdsOk gv (rows.map ndOf)
  full : ∀ r ∈ rows, ∃ y l, r.its = y :: l ∧ 1 ≤ y.cost ∧ y.cost ≤ 64
theorem RingAt.rowsOk {pre : List Int} {ρ : Roles} {w : World} {f : Nat} {q : Int} {gv : Bool} {rows : List FRow} (h : RingAt pre ρ w f q gv rows) : RowsOk gv rows := by
  obtain ⟨sp, v, ns, qb, its, h, rfl⟩ := h
  refine ⟨?_, fun r hr => ?_⟩
  · have hg := h.good
    cases ns with
    | nil => trivial
    | cons n l =>
      refine ⟨hg.1, fun m hm => ?_⟩
      obtain ⟨r, hr, rfl⟩ := List.mem_map.1 hm
      obtain ⟨n', hn', rfl⟩ := List.mem_map.1 hr
      exact hg.2 n' hn'
  · obtain ⟨n, hn, rfl⟩ := List.mem_map.1 hr
    have h1 := h.full n hn
    have h2 := (h.que n hn).good
    cases hl : its n.id with
    | nil => exact absurd hl h1
    | cons y l =>
      have h3 := h2.ok y (by rw [hl]; exact List.mem_cons_self)
      exact ⟨y, l, hl, h3.2.2⟩
theorem RowsOk.rotate {q : Int} {gv : Bool} {x : FRow} {r : List FRow} (hq1 : 1 ≤ q) (hq : q ≤ 64) (h : RowsOk gv (x :: r)) (hn : ¬ headC x.its ≤ (chargeR q gv x).df) : RowsOk false (r ++ [chargeR q gv x]) ∧ roundM false ((r ++ [chargeR q gv x]).map ndOf) < roundM gv ((x :: r).map ndOf) := by
  obtain ⟨y, l, hy, c1, c2⟩ := h.full x List.mem_cons_self
  have hh : headC x.its = y.cost := by rw [hy]; rfl
  have hn' : ¬ y.cost ≤ (charge q gv (ndOf x)).df := by rw [← ndOf_charge, ← hh]; exact hn
  have e : (r ++ [chargeR q gv x]).map ndOf = r.map ndOf ++ [charge q gv (ndOf x)] := by rw [List.map_append, ← ndOf_charge]; rfl
  refine ⟨⟨by rw [e]; exact rotate_ok hq1 hq c2 h.nds hn', fun z hz => ?_⟩, by rw [e]; exact roundM_less hq1 hq c2 h.nds hn'⟩
  rcases List.mem_append.1 hz with hz | hz
  · exact h.full z (List.mem_cons_of_mem _ hz)
  · rw [List.mem_singleton] at hz
    subst hz
    rw [(chargeR_its q gv x).1]
    exact h.full x List.mem_cons_self
theorem slice_tail (g off n cap : Nat) (W : World) : (Instr.sliceAt 102 (.slice (some ⟨g, off, none⟩) (n + 1) cap) (some (.int .i64 1)) none none).run Tryz.prog W = .ok (.slice (if cap = 1 then some ⟨g, off, none⟩ else some ⟨g, off + 4, none⟩) n (cap - 1)) W := by
  have hu := Tryz.underlying102
  have hi := rrow_info
  have h1 : ¬ ((n : Int) + 1 < 1) := by omega
  simp [Instr.sliceAt, go_sem, h1]
theorem tail_src {w : World} {v : Value} {p : FRow × Value} {r : List (FRow × Value)} (h : RowsAt w v (p :: r)) : ∃ tv, (∀ W, (Instr.sliceAt 102 v (some (.int .i64 1)) none none).run Tryz.prog W = .ok tv W) ∧ SrcAt 4 w tv r.length (flatRV r) := by
  obtain ⟨⟨a, cap, rfl, hle, hc⟩, _⟩ := h
  obtain ⟨g, off, rfl, _⟩ := hc 0 _ rfl
  rw [List.length_cons] at hle
  refine ⟨_, fun W => slice_tail g off r.length cap W, ?_⟩
  have hat : ∀ (j : Nat) u, (flatRV r)[j]? = some u → w.cell? ⟨g, off + 4 + j, none⟩ = some u := fun j u hu => by
    obtain ⟨g', off', he, h0⟩ := hc (4 + j) u (by
      have e : flatRV (p :: r) = encRV p ++ flatRV r := rfl
      rw [e, List.getElem?_append_right (by rw [encRV_len]; omega), encRV_len, show 4 + j - 4 = j by omega]
      exact hu)
    cases he
    rw [Nat.add_assoc]
    exact h0
  by_cases h1 : cap = 1
  · have hr : r = [] := List.length_eq_zero_iff.1 (by omega)
    subst hr
    exact ⟨_, _, rfl, rfl, fun j u hu => by simp [flatRV] at hu⟩
  · rw [if_neg h1]
    exact ⟨_, _, rfl, flatRV_len r, fun j u hu => ⟨g, off + 4, rfl, hat j u hu⟩⟩
theorem flatRV_one {w : World} {l : List (FRow × Value)} (h : ∀ p ∈ l, ItsAt w p.2 p.1.its) : ∀ u ∈ flatRV l, u.oneCell' = true := by
  intro u hu
  obtain ⟨p, hp, hx⟩ := List.mem_flatMap.1 hu
  obtain ⟨a, c, hv⟩ := its_form (h p hp)
  simp [encRV] at hx
  rcases hx with rfl | rfl | rfl | rfl
  · rfl
  · rfl
  · rfl
  · rw [hv]
    rfl
theorem its_lt {w : World} {v : Value} {l : List It} (h : ItsAt w v l) (hne : l ≠ []) : ∀ j, v.ownBlock = some j → j < w.heap.size := by
  intro j hj
  obtain ⟨x, r, rfl⟩ : ∃ x r, l = x :: r := by
    cases l with
    | nil => exact absurd rfl hne
    | cons x r => exact ⟨x, r, rfl⟩
  obtain ⟨g, off, cap, rfl, h0, _⟩ := its_at h (k := 0) rfl
  simp only [Value.ownBlock, Option.some.injEq] at hj
  subst hj
  exact World.block_lt_of_cell? w _ h0
theorem rows_lt {w : World} {v : Value} {l : List (FRow × Value)} (h : ∃ a cap, v = .slice a l.length cap ∧ l.length ≤ cap ∧ ∀ (j : Nat) u, (flatRV l)[j]? = some u → ∃ g off, a = some ⟨g, off, none⟩ ∧ w.cell? ⟨g, off + j, none⟩ = some u) (hne : l ≠ []) : ∀ j, v.ownBlock = some j → j < w.heap.size := by
  intro j hj
  obtain ⟨a, cap, rfl, _, hc⟩ := h
  obtain ⟨x, r, rfl⟩ : ∃ x r, l = x :: r := by
    cases l with
    | nil => exact absurd rfl hne
    | cons x r => exact ⟨x, r, rfl⟩
  obtain ⟨g, off, rfl, h0⟩ := hc 0 _ rfl
  simp only [Value.ownBlock, Option.some.injEq] at hj
  subst hj
  exact World.block_lt_of_cell? w _ h0
end Go.Proofs.YtdbjihkgafhakaaGreatDoor
/-
  ref15 (flows): Take: the walk.
-/
namespace Go.Proofs.YtdbjihkgafhakaaGreatDoor
open Go.RowKit
variable {G : Nat → Prop}
theorem picks_ok {q : Int} {gv : Bool} {l l2 : List FRow} (h : PicksR q gv l l2) (hq1 : 1 ≤ q) (hq : q ≤ 64) (hok : RowsOk gv l) : RowsOk true l2 := by
  induction h with
  | @grant gv x r h =>
    refine ⟨?_, fun y hy => ?_⟩
    · show NdsOk true (ndOf (chargeR q gv x) :: r.map ndOf)
      rw [ndOf_charge]
      exact ⟨charge_ok hq1 hq hok.nds.1, hok.nds.2⟩
    · rcases List.mem_cons.1 hy with rfl | hy
      · rw [(chargeR_its q gv x).1]
        exact hok.full x List.mem_cons_self
      · exact hok.full y (List.mem_cons_of_mem _ hy)
  | @rotate gv x r l2 h hr ih =>
    refine ih ⟨?_, fun y hy => ?_⟩
    · rw [List.map_append, List.map_cons, List.map_nil, ndsOk_false]
      intro m hm
      rcases List.mem_append.1 hm with hm | hm
      · exact hok.nds.2 m hm
      · rw [List.mem_singleton] at hm
        subst hm
        have hc := charge_ok hq1 hq hok.nds.1
        have hd : (charge q gv (ndOf x)).df = (chargeR q gv x).df := by rw [← ndOf_charge]; rfl
        rw [ndOf_charge]
        refine ⟨hc.1, hc.2.1, hc.2.2.1, ?_⟩
        obtain ⟨y, ys, hy, h1, h2⟩ := hok.full x List.mem_cons_self
        have hh : headC x.its = y.cost := by rw [hy]; rfl
        omega
    · rcases List.mem_append.1 hy with hy | hy
      · exact hok.full y (List.mem_cons_of_mem _ hy)
      · rw [List.mem_singleton] at hy
        subst hy
        rw [(chargeR_its q gv x).1]
        exact hok.full x List.mem_cons_self
theorem picks_once {q : Int} {gv : Bool} {l l2 : List FRow} (h : PicksR q gv l l2) (ho : ∀ r ∈ l, (r.its.map It.id).Nodup) : ∀ r ∈ l2, (r.its.map It.id).Nodup := by
  induction h with
  | @grant gv x r h =>
    intro y hy
    rcases List.mem_cons.1 hy with rfl | hy
    · rw [(chargeR_its q gv x).1]
      exact ho x List.mem_cons_self
    · exact ho y (List.mem_cons_of_mem _ hy)
  | @rotate gv x r l2 h hr ih =>
    refine ih (fun y hy => ?_)
    rcases List.mem_append.1 hy with hy | hy
    · exact ho y (List.mem_cons_of_mem _ hy)
    · rw [List.mem_singleton] at hy
      subst hy
      rw [(chargeR_its q gv x).1]
      exact ho x List.mem_cons_self
theorem cell_past {w : World} {o n : Nat} {u t : Value} {T : TypeId} (h : w.heap[o]? = some (.cells #[u, t] T (0, 0))) (hn : 2 ≤ n) (z : Value) : w.cell? ⟨o, n, none⟩ ≠ some z := by
  intro e
  simp [World.cell?, h, hn] at e
theorem RefAt.box {w w' : World} {b o : Nat} {q : Int} {gv : Bool} {v u t : Value} {T : TypeId} {l : List (FRow × Value)} (h : RefAt G w b q gv v l) (hF : Fp (fun j => j = o) w w') (hob : ¬ b = o) (ho : w.heap[o]? = some (.cells #[u, t] T (0, 0))) (hI : ∀ p ∈ l, ∀ k, p.2.ownBlock = some k → ¬ k = o) : RefAt G w' b q gv v l := by
  refine ⟨hF.heap h.head hob, ?_, fun hl => (h.vg hl).grow hF.size, fun p hp => (h.ig p hp).grow hF.size, h.nb, fun k hk => h.up k (Nat.le_trans hF.size hk), h.few, h.fews⟩
  rcases l with _ | ⟨p, r⟩
  · obtain ⟨⟨a, cap, hv, hle, _⟩, _⟩ := h.rows
    exact ⟨⟨a, cap, hv, hle, fun j u hu => by simp [flatRV] at hu⟩, fun p hp => by cases hp⟩
  · refine h.rows.fp hF (fun k hk e => ?_) hI
    obtain ⟨g, off, cap, rfl, _, _, _, _, c3⟩ := h.rows.at (k := 0) rfl
    have hg : g = k := by simpa [Value.ownBlock] using hk
    rw [hg, e] at c3
    exact cell_past ho (by omega) _ c3
end Go.Proofs.YtdbjihkgafhakaaGreatDoor
/-
  ref15 (flows): Drop: the walk.
-/
namespace Go.Proofs.YtdbjihkgafhakaaGreatDoor
open Go.RowKit
variable {G : Nat → Prop}
end Go.Proofs.YtdbjihkgafhakaaGreatDoor
/-
  ref15 (flows): Push: bad arguments (the other cases are to come).
-/
namespace Go.Proofs.YtdbjihkgafhakaaGreatDoor
open Go.RowKit
variable {G : Nat → Prop}
end Go.Proofs.YtdbjihkgafhakaaGreatDoor
/-
  ref15 (flows): Push on a row that is there: the walk. (draft, not built)
-/
namespace Go.Proofs.YtdbjihkgafhakaaGreatDoor
open Go.RowKit
variable {G : Nat → Prop}
end Go.Proofs.YtdbjihkgafhakaaGreatDoor
/-
  ref15 (flows): Push of a row that is new: the walk; Push in one law.
-/
namespace Go.Proofs.YtdbjihkgafhakaaGreatDoor
open Go.RowKit
variable {G : Nat → Prop}
theorem rows_src {w : World} {v : Value} {l : List (FRow × Value)} (h : RowsAt w v l) : SrcAt 4 w v l.length (flatRV l) := by
  obtain ⟨⟨a, cap, rfl, _, hc⟩, _⟩ := h
  exact ⟨a, cap, rfl, flatRV_len l, hc⟩
end Go.Proofs.YtdbjihkgafhakaaGreatDoor
/-
  ref15 (flows): Push in one law; Drop in one law.
-/
namespace Go.Proofs.YtdbjihkgafhakaaGreatDoor
open Go.RowKit
variable {G : Nat → Prop}
theorem placeF_none {id : Int} {rows : List FRow} (h : findF id rows = none) : placeF id rows = -1 := by unfold placeF; rw [h]
theorem placeF_some {id : Int} {rows : List FRow} {k : Nat} (h : findF id rows = some k) : placeF id rows = k := by unfold placeF; rw [h]
theorem row_val {l : List (FRow × Value)} {k : Nat} {r : FRow} (h : (l.map Prod.fst)[k]? = some r) : ∃ p, l[k]? = some p ∧ p.1 = r := by
  rw [List.getElem?_map] at h
  cases hl : l[k]? with
  | none => rw [hl] at h; cases h
  | some p =>
    rw [hl] at h
    exact ⟨p, rfl, Option.some.inj h⟩
theorem placeI_cases (i : Int) (l : List It) : (placeI i l = -1 ∧ hasIt i l = false) ∨ ∃ (j : Nat) (x : It), placeI i l = j ∧ l[j]? = some x ∧ x.id = i ∧ hasIt i l = true := by
  rcases h : l.findIdx? (fun x => x.id == i) with _ | j
  · left
    have hp : placeI i l = -1 := by unfold placeI; rw [h]
    refine ⟨hp, ?_⟩
    rcases hh : hasIt i l with _ | _
    · rfl
    · have := placeI_has.2 hh
      rw [hp] at this
      omega
  · right
    have hp : placeI i l = j := by unfold placeI; rw [h]
    obtain ⟨hj, hx, _⟩ := List.findIdx?_eq_some_iff_getElem.1 h
    exact ⟨j, l[j], hp, List.getElem?_eq_getElem hj, by simpa using hx, placeI_has.1 (by rw [hp]; omega)⟩
def dropE (id i : Int) (gv : Bool) (rows : List FRow) : Bool × Bool × List FRow := match findF id rows, atF id rows with
  | some k, some r => if hasIt i r.its = true then (true, withR k { r with its := dropIt r.its i } gv rows) else (false, gv, rows)
  | _, _ => (false, gv, rows)
theorem dropE_none {id i : Int} {gv : Bool} {rows : List FRow} (h : findF id rows = none) : dropE id i gv rows = (false, gv, rows) := by unfold dropE; rw [h]
theorem dropE_not {id i : Int} {gv : Bool} {rows : List FRow} {k : Nat} {r : FRow} (h : findF id rows = some k) (h2 : atF id rows = some r) (hi : hasIt i r.its = false) : dropE id i gv rows = (false, gv, rows) := by
  unfold dropE
  rw [h, h2]
  exact if_neg (by rw [hi]; decide)
theorem dropE_some {id i : Int} {gv : Bool} {rows : List FRow} {k : Nat} {r : FRow} (h : findF id rows = some k) (h2 : atF id rows = some r) (hi : hasIt i r.its = true) : dropE id i gv rows = (true, withR k { r with its := dropIt r.its i } gv rows) := by
  unfold dropE
  rw [h, h2]
  exact if_pos hi
theorem tot_erase : ∀ {rows : List FRow} {k : Nat}, totR (rows.eraseIdx k) ≤ totR rows
  | [], _ => by simp
  | x :: l, 0 => by simp [totR]
  | x :: l, k + 1 => by
    have := tot_erase (rows := l) (k := k)
    simp [totR] at this ⊢
    omega
section
variable {pre : List Int} {ρ : Roles} {f : Nat} {q : Int} {gv : Bool} {rows : List FRow}
theorem flowDrop_any (id i : Int) (w : World) (hR : RingAt pre ρ w f q gv rows) (hi : I64 i) : Calls Tryz.prog 63 #[.pointer (some ⟨f, 0, none⟩), .int .i64 id, .int .i64 i] w
    fun e w' => e = .returned (.bool (dropE id i gv rows).1) ∧ RingAt pre ρ w' f q (dropE id i gv rows).2.1 (dropE id i gv rows).2.2 ∧ Fp (Part ρ pre) w w' := by
  rcases find_at (id := id) (rows := rows) with ⟨h1, h2⟩ | ⟨k, r, h1, h2, h3, h4⟩
  · rw [dropE_none h1]
    refine (flowDrop_none id i w hR h2).mono ?_
    rintro e w' ⟨rfl, hb⟩
    exact ⟨rfl, hR.below hb, Fp.of_below hb⟩
  · subst h3
    rcases placeI_cases i r.its with ⟨hp, hn⟩ | ⟨j, x, hp, hx, rfl, hn⟩
    · rw [dropE_not h1 h4 hn]
      refine (flowDrop_not k r i w hR h2 hi hn).mono ?_
      rintro e w' ⟨rfl, hb⟩
      exact ⟨rfl, hR.below hb, Fp.of_below hb⟩
    · rw [dropE_some h1 h4 hn]
      exact flowDrop_some k r x j w hR h2 hx
theorem drop_tot {id i : Int} : totR (dropE id i gv rows).2.2 ≤ totR rows := by
  rcases find_at (id := id) (rows := rows) with ⟨h1, h2⟩ | ⟨k, r, h1, h2, h3, h4⟩
  · rw [dropE_none h1]
    exact Nat.le_refl _
  · rcases hn : hasIt i r.its with _ | _
    · rw [dropE_not h1 h4 hn]
      exact Nat.le_refl _
    · rw [dropE_some h1 h4 hn]
      have hd : (dropIt r.its i).length ≤ r.its.length := List.length_filter_le _ _
      unfold withR
      split
      · exact tot_erase
      · have := tot_set (y := { r with its := dropIt r.its i }) h2
        simp only at this ⊢
        omega
end
end Go.Proofs.YtdbjihkgafhakaaGreatDoor
namespace Go.Proofs.YtdbjihkgafhakaaGreatDoor
open Go.RowKit Go.Sort
theorem later_part {ρ ρ' : Roles} {pre : List Int} {w : World} (hl : Later ρ ρ' w) {k : Nat} (hk : k < w.heap.size) (h : Part ρ' pre k) : Part ρ pre k := by
  obtain ⟨s, hs⟩ := h
  exact ⟨s, (hl k hk).symm.trans hs⟩
theorem later_trans {ρ ρ1 ρ2 : Roles} {w w1 : World} (h1 : Later ρ ρ1 w) (h2 : Later ρ1 ρ2 w1) (hs : w.heap.size ≤ w1.heap.size) : Later ρ ρ2 w := fun k hk => (h2 k (Nat.lt_of_lt_of_le hk hs)).trans (h1 k hk)
section
variable {pre : List Int} {ρ : Roles} {f : Nat} {q : Int} {rows : List FRow}
end
end Go.Proofs.YtdbjihkgafhakaaGreatDoor
