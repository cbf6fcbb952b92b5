/-
  ref15 (flows): how the document's ring lies in memory; Find, with: the walks.
-/
import Derived.Test.YtohkchilogmneaaRef14
import Derived.Test.YtohkchilogmneaaFlowAll
namespace Go.Proofs.Ytohkchilogmneaa
open Go.RowKit
/-- Where a value's own block lies: a good one, and there. -/
def InG (G : Nat → Prop) (w : World) (v : Value) : Prop := ∀ k, v.ownBlock = some k → G k ∧ k < w.heap.size
theorem InG.grow {G : Nat → Prop} {w w' : World} {v : Value} (h : InG G w v) (hs : w.heap.size ≤ w'.heap.size) : InG G w' v := fun k hk => ⟨(h k hk).1, Nat.lt_of_lt_of_le (h k hk).2 hs⟩
theorem InG.not {G : Nat → Prop} {w : World} {v : Value} {b : Nat} (h : InG G w v) (hb : ¬ G b) : v.ownBlock ≠ some b := fun e => hb (h b e).1
theorem own_inG {G : Nat → Prop} {w : World} {base size : Nat} {e : TypeId} {v : Value} {n : Nat} {xs : List Value} (h : w.ownsRow base e size v n xs) (hG : ∀ k, base ≤ k → G k) : InG G w v := fun k hk => ⟨hG k (own_block h k hk), own_lt h k (mem_blk.2 hk)⟩
variable {G : Nat → Prop}

/-- Rows, wherever they lie. -/
structure RowsAt (w : World) (v : Value) (l : List (FRow × Value)) : Prop where
  rows : ∃ a cap, v = .slice a l.length cap ∧ l.length ≤ cap ∧ ∀ (j : Nat) u, (flatRV l)[j]? = some u → ∃ g off, a = some ⟨g, off, none⟩ ∧ w.cell? ⟨g, off + j, none⟩ = some u
  its : ∀ p ∈ l, ItsAt w p.2 p.1.its
theorem ItsAt.fp {S : Nat → Prop} {w w' : World} {v : Value} {l : List It} (h : ItsAt w v l) (hF : Fp S w w') (hS : ∀ k, v.ownBlock = some k → ¬ S k) : ItsAt w' v l := by
  obtain ⟨a, cap, rfl, hc⟩ := h
  exact ⟨a, cap, rfl, fun j u hu => by obtain ⟨g, off, rfl, h0⟩ := hc j u hu; exact ⟨g, off, rfl, hF.cell h0 (hS g rfl)⟩⟩
theorem RowsAt.fp {S : Nat → Prop} {w w' : World} {v : Value} {l : List (FRow × Value)} (h : RowsAt w v l) (hF : Fp S w w') (hS : ∀ k, v.ownBlock = some k → ¬ S k) (hI : ∀ p ∈ l, ∀ k, p.2.ownBlock = some k → ¬ S k) : RowsAt w' v l := by
  obtain ⟨⟨a, cap, rfl, hle, hc⟩, hi⟩ := h
  exact ⟨⟨a, cap, rfl, hle, fun j u hu => by obtain ⟨g, off, rfl, h0⟩ := hc j u hu; exact ⟨g, off, rfl, hF.cell h0 (hS g rfl)⟩⟩, fun p hp => (hi p hp).fp hF (hI p hp)⟩
theorem RowsAt.fp' {S : Nat → Prop} {w w' : World} {v : Value} {l : List (FRow × Value)} (h : RowsAt w v l) (hF : Fp S w w') (hS : l ≠ [] → ∀ k, v.ownBlock = some k → ¬ S k) (hI : ∀ p ∈ l, ∀ k, p.2.ownBlock = some k → ¬ S k) : RowsAt w' v l := by
  by_cases hl : l = []
  · subst hl
    obtain ⟨⟨a, cap, rfl, hle, _⟩, _⟩ := h
    exact ⟨⟨a, cap, rfl, hle, fun j u hu => by simp [flatRV] at hu⟩, fun p hp => by cases hp⟩
  · exact h.fp hF (hS hl) hI
theorem RowsAt.below {w w' : World} {v : Value} {l : List (FRow × Value)} (h : RowsAt w v l) (hb : Below w.heap.size w w') : RowsAt w' v l := h.fp (S := fun _ => False) (Fp.of_below hb) (fun _ _ h => h) (fun _ _ _ _ h => h)
theorem RowsAt.form {w : World} {v : Value} {l : List (FRow × Value)} (h : RowsAt w v l) : ∃ a cap, v = .slice a l.length cap ∧ l.length ≤ cap := by
  obtain ⟨⟨a, cap, hv, hle, _⟩, _⟩ := h
  exact ⟨a, cap, hv, hle⟩
theorem RowsAt.at {w : World} {v : Value} {l : List (FRow × Value)} (h : RowsAt w v l) {k : Nat} {p : FRow × Value} (hp : l[k]? = some p) : ∃ g off cap, v = .slice (some ⟨g, off, none⟩) l.length cap ∧ l.length ≤ cap ∧ w.cell? ⟨g, off + k * 4, none⟩ = some (.int .i64 p.1.id) ∧ w.cell? ⟨g, off + k * 4 + 1, none⟩ = some (.int .i64 p.1.wt) ∧
    w.cell? ⟨g, off + k * 4 + 2, none⟩ = some (.int .i64 p.1.df) ∧ w.cell? ⟨g, off + k * 4 + 3, none⟩ = some p.2 := by
  obtain ⟨⟨a, cap, rfl, hle, hc⟩, _⟩ := h
  have key : ∀ i u, (encRV p)[i]? = some u → (flatRV l)[k * 4 + i]? = some u := fun i u hu => by
    have hi : i < 4 := (List.getElem?_eq_some_iff.1 hu).1
    unfold flatRV
    rw [flat_at encRV 4 encRV_len i hp hi]
    exact hu
  obtain ⟨g, off, rfl, h0⟩ := hc _ _ (key 0 _ rfl)
  have get : ∀ i u, (encRV p)[i]? = some u → w.cell? ⟨g, off + k * 4 + i, none⟩ = some u := fun i u hu => by
    obtain ⟨g', off', he, h1⟩ := hc _ _ (key i u hu)
    cases he
    rw [Nat.add_assoc]
    exact h1
  exact ⟨g, off, cap, rfl, hle, get 0 _ rfl, get 1 _ rfl, get 2 _ rfl, get 3 _ rfl⟩
theorem rows_own {T : TypeId} {w : World} {base : Nat} {v : Value} {l : List (FRow × Value)} (h : w.ownsRow base T 4 v l.length (flatRV l)) (hi : ∀ p ∈ l, ItsAt w p.2 p.1.its) : RowsAt w v l := by
  obtain ⟨a, cap, rfl, hle, _, _, hc⟩ := own_cells h
  exact ⟨⟨a, cap, rfl, hle, fun j u hu => by obtain ⟨g, ha, _, _, h0, _⟩ := hc j u hu; exact ⟨g, 0, ha, by rw [Nat.zero_add]; exact h0⟩⟩, hi⟩
/-- The document's ring, at block b. -/
structure RefAt (G : Nat → Prop) (w : World) (b : Nat) (q : Int) (gv : Bool) (v : Value) (l : List (FRow × Value)) : Prop where
  head : w.heap[b]? = some (.cells #[.int .i64 q, v, .bool gv] 53 (0, 0))
  rows : RowsAt w v l
  vg : l ≠ [] → InG G w v
  ig : ∀ p ∈ l, InG G w p.2
  nb : ¬ G b
  up : ∀ k, w.heap.size ≤ k → G k
  few : l.length ≤ 1000000
  fews : ∀ p ∈ l, p.1.its.length ≤ 1000000
theorem RefAt.below {w w' : World} {b : Nat} {q : Int} {gv : Bool} {v : Value} {l : List (FRow × Value)} (h : RefAt G w b q gv v l) (hb : Below w.heap.size w w') : RefAt G w' b q gv v l :=
  ⟨(hb.block b (fp_lt_of_heap h.head)).trans h.head, h.rows.below hb, fun hl => (h.vg hl).grow hb.size, fun p hp => (h.ig p hp).grow hb.size, h.nb, fun k hk => h.up k (Nat.le_trans hb.size hk), h.few, h.fews⟩
theorem RefAt.nv {w : World} {b : Nat} {q : Int} {gv : Bool} {v : Value} {l : List (FRow × Value)} (h : RefAt G w b q gv v l) (hl : l ≠ []) : v.ownBlock ≠ some b := (h.vg hl).not h.nb
theorem RefAt.ni {w : World} {b : Nat} {q : Int} {gv : Bool} {v : Value} {l : List (FRow × Value)} (h : RefAt G w b q gv v l) : ∀ p ∈ l, p.2.ownBlock ≠ some b := fun p hp => (h.ig p hp).not h.nb
theorem RefAt.fp {S : Nat → Prop} {w w' : World} {b : Nat} {q : Int} {gv : Bool} {v : Value} {l : List (FRow × Value)} (h : RefAt G w b q gv v l) (hF : Fp S w w') (h0 : ¬ S b) (hS : ∀ k, v.ownBlock = some k → ¬ S k) (hI : ∀ p ∈ l, ∀ k, p.2.ownBlock = some k → ¬ S k) : RefAt G w' b q gv v l :=
  ⟨hF.heap h.head h0, h.rows.fp hF hS hI, fun hl => (h.vg hl).grow hF.size, fun p hp => (h.ig p hp).grow hF.size, h.nb, fun k hk => h.up k (Nat.le_trans hF.size hk), h.few, h.fews⟩
/-- Other blocks are good from here on. -/
theorem RefAt.regood {G' : Nat → Prop} {w : World} {b : Nat} {q : Int} {gv : Bool} {v : Value} {l : List (FRow × Value)} (h : RefAt G w b q gv v l) (hG : ∀ k, k < w.heap.size → G k → G' k) (hb : ¬ G' b) (hup : ∀ k, w.heap.size ≤ k → G' k) : RefAt G' w b q gv v l :=
  ⟨h.head, h.rows, fun hl k hk => ⟨hG k (h.vg hl k hk).2 (h.vg hl k hk).1, (h.vg hl k hk).2⟩, fun p hp k hk => ⟨hG k (h.ig p hp k hk).2 (h.ig p hp k hk).1, (h.ig p hp k hk).2⟩, hb, hup, h.few, h.fews⟩
def placeF (id : Int) (rows : List FRow) : Int := match findF id rows with
  | some k => k
  | none => -1
theorem findF_of {id : Int} : ∀ {l : List FRow} {k : Nat} {x : FRow}, l[k]? = some x → x.id = id → (∀ j y, j < k → l[j]? = some y → y.id ≠ id) → findF id l = some k
  | [], _, _, h, _, _ => by simp at h
  | y :: r, 0, x, h, hp, _ => by
    simp at h
    subst h
    simp [findF, List.findIdx?_cons, hp]
  | y :: r, k + 1, x, h, hp, hn => by
    have h0 := hn 0 y (by omega) rfl
    have ih := findF_of (l := r) (k := k) (by simpa using h) hp (fun j z hj hz => hn (j + 1) z (by omega) (by simpa using hz))
    unfold findF at ih ⊢
    simp [List.findIdx?_cons, h0]
    exact ih
theorem findF_none {id : Int} {l : List FRow} (hn : ∀ j y, j < l.length → l[j]? = some y → y.id ≠ id) : findF id l = none := by
  unfold findF
  rw [List.findIdx?_eq_none_iff]
  intro x hx
  obtain ⟨j, hj, rfl⟩ := List.getElem_of_mem hx
  have := hn j _ hj (List.getElem?_eq_getElem hj)
  simpa using this
set_option maxRecDepth 100000 in
set_option maxHeartbeats 1000000 in
/-- THE WALK: Find. -/
theorem r15Find_any (id q : Int) (gv : Bool) (v : Value) (l : List (FRow × Value)) (w : World) (h : RowsAt w v l) (hf : l.length ≤ 1000000) : Calls Try.prog 24 #[.agg #[.int .i64 q, v, .bool gv], .int .i64 id] w fun e w' => e = .returned (.int .i64 (placeF id (l.map Prod.fst))) ∧ Below w.heap.size w w' := by
  have HI := Lib.hid (h.below (box_below (o := .cells #[.int .i64 q, v, .bool gv] 53)))
  obtain ⟨a, cap, rfl, -⟩ := h.form
  clear h
  go_enter Try.func24, Try.ntmps24
  go_wp2_with fail
  obtain ⟨w1, hw1⟩ : ∃ w1 : World, w1 = w.alloc (.cells #[.int .i64 q, .slice a l.length cap, .bool gv] 53) := ⟨_, rfl⟩
  rw [← hw1] at HI ⊢
  have b1 : w1.cell? ⟨w.heap.size, 1, none⟩ = some (.slice a l.length cap) := by rw [hw1]; exact cell_alloc_at rfl
  have HB := Lib.hid (show Below w.heap.size w w1 by rw [hw1]; exact box_below)
  clear hw1
  go_loopg [5] l.length (fun g i wr => ∃ k : Nat, g = l.length - k ∧ i = .int .i64 k ∧ k ≤ l.length ∧ (∀ j y, j < k → (l.map Prod.fst)[j]? = some y → y.id ≠ id) ∧ wr = w1)
  case atStart => exact ⟨0, rfl, rfl, Nat.zero_le _, (fun j y hj => by omega), rfl⟩
  case round =>
    obtain ⟨k, hg, rfl, hk, hn, rfl⟩ := hrel
    have HG := Lib.hid hg
    have HN := Lib.hid hn
    clear hg hn
    by_cases hlt : k < l.length
    · obtain ⟨p, hp⟩ : ∃ p, l[k]? = some p := ⟨_, List.getElem?_eq_getElem hlt⟩
      obtain ⟨g, off, cap', hv, _, c0, _⟩ := HI.out.at hp
      cases hv
      have HX := Lib.hid (show (l.map Prod.fst)[k]? = some p.1 by rw [List.getElem?_map, hp]; rfl)
      have hkl : (k : Int) < (l.length : Int) := by omega
      clear hp
      by_cases hq : p.1.id = id
      · have HP := Lib.hid (show placeF id (l.map Prod.fst) = k by unfold placeF; rw [findF_of HX.out hq HN.out])
        have hpb : (p.1.id == id) = true := beq_iff_eq.2 hq
        clear hq
        go_wp2_with fail
        go_ret
        exact ⟨ret_int HP.out.symm, HB.out⟩
      · have HP := Lib.hid hq
        have hpb : (p.1.id == id) = false := beq_eq_false_iff_ne.2 hq
        clear hq
        go_wp2_with fail
        go_roundg (l.length - (k + 1))
        case rel =>
          refine ⟨k + 1, rfl, by go_num, by omega, fun j y hj hy => ?_, rfl⟩
          rcases Nat.lt_or_ge j k with h | h
          · exact HN.out j y h hy
          · obtain rfl : j = k := by omega
            obtain rfl : p.1 = y := Option.some.inj (HX.out.symm.trans hy)
            exact HP.out
        case measure => have := HG.out; omega
    · have HP := Lib.hid (show placeF id (l.map Prod.fst) = -1 by unfold placeF; rw [findF_none (fun j y hj hy => HN.out j y (by rw [List.length_map] at hj; omega) hy)])
      go_wp2_with fail
      go_ret
      exact ⟨ret_int HP.out.symm, HB.out⟩
end Go.Proofs.Ytohkchilogmneaa
