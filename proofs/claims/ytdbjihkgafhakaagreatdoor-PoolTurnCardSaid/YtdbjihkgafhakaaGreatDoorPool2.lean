/-
  pool.Pools: find, tick, Share: the walks.
-/
import Derived.Test.YtdbjihkgafhakaaGreatDoorPool1
namespace Go.Proofs.YtdbjihkgafhakaaGreatDoor
open Go.RowKit

def eqS (a b : ByteArray) : Bool := a.toList == b.toList
def placeP (s : ByteArray) (ns : List PN) : Int := match ns.findIdx? (fun n => eqS n.name s) with
  | some k => k
  | none => -1
theorem placeP_of {s : ByteArray} {ns : List PN} {k : Nat} {x : PN} (hx : ns[k]? = some x) (e : eqS x.name s = true) (hb : ∀ j y, j < k → ns[j]? = some y → eqS y.name s = false) : placeP s ns = k := by
  obtain ⟨hk, he⟩ := List.getElem?_eq_some_iff.1 hx
  have : ns.findIdx? (fun n => eqS n.name s) = some k := List.findIdx?_eq_some_iff_getElem.2 ⟨hk, by rw [he]; exact e, fun j hj => by
    have := hb j _ hj (List.getElem?_eq_getElem (by omega))
    simp [this]⟩
  unfold placeP
  rw [this]
theorem placeP_none {s : ByteArray} {ns : List PN} (h : ∀ j y, j < ns.length → ns[j]? = some y → eqS y.name s = false) : placeP s ns = -1 := by
  have : ns.findIdx? (fun n => eqS n.name s) = none := List.findIdx?_eq_none_iff.2 (fun y hy => by
    obtain ⟨j, hj⟩ := List.getElem?_of_mem hy
    simp [h j y (List.getElem?_eq_some_iff.1 hj).1 hj])
  unfold placeP
  rw [this]
theorem placeP_cases (s : ByteArray) (ns : List PN) : (placeP s ns = -1 ∧ ∀ n ∈ ns, eqS n.name s = false) ∨ ∃ (k : Nat) (n : PN), placeP s ns = k ∧ ns[k]? = some n ∧ eqS n.name s = true := by
  unfold placeP
  cases h : ns.findIdx? (fun n => eqS n.name s) with
  | none => exact .inl ⟨rfl, fun n hn => by simpa using List.findIdx?_eq_none_iff.1 h n hn⟩
  | some k =>
    obtain ⟨hk, he, _⟩ := List.findIdx?_eq_some_iff_getElem.1 h
    exact .inr ⟨k, ns[k], rfl, List.getElem?_eq_getElem hk, he⟩
theorem PoolAt.n0 {ρ : Roles} {w : World} {P : Nat} {x : PX} {next : Int} {v : Value} {L : List PN} (h : PoolAt ρ w P x next v L) {i : Nat} {n : PN} (hn : L[i]? = some n) : w.cell? ⟨n.blk, 0, none⟩ = some (.string n.name) := fr_cell_of_heap (h.need i n hn).blk rfl
theorem PoolAt.at {ρ : Roles} {w : World} {P : Nat} {x : PX} {next : Int} {v : Value} {L : List PN} (h : PoolAt ρ w P x next v L) {i : Nat} {n : PN} (hn : L[i]? = some n) : ∃ g off cap, v = .slice (some ⟨g, off, none⟩) L.length cap ∧ w.cell? ⟨g, off + i, none⟩ = some (.pointer (some ⟨n.blk, 0, none⟩)) := by
  obtain ⟨g, off, cap, hv, hc⟩ := h.arr.at (i := i) (b := n.blk) (by simp [hn])
  rw [List.length_map] at hv
  exact ⟨g, off, cap, hv, hc⟩
theorem PoolAt.form {ρ : Roles} {w : World} {P : Nat} {x : PX} {next : Int} {v : Value} {L : List PN} (h : PoolAt ρ w P x next v L) : ∃ a cap, v = .slice a L.length cap ∧ L.length ≤ cap := by
  obtain ⟨a, cap, hv, hc⟩ := h.arr.form
  rw [List.length_map] at hv hc
  exact ⟨a, cap, hv, hc⟩
theorem NeedAt.at {ρ : Roles} {w : World} {q : Int} {m : Nat} {n : PN} (h : NeedAt ρ w q m n) {k : Nat} {c : PC} (hc : n.cls[k]? = some c) : ∃ g off cap, n.cv = .slice (some ⟨g, off, none⟩) n.cls.length cap ∧ w.cell? ⟨g, off + k, none⟩ = some (.pointer (some ⟨c.blk, 0, none⟩)) := by
  obtain ⟨g, off, cap, hv, hc⟩ := h.arr.at (i := k) (b := c.blk) (by simp [hc])
  rw [List.length_map] at hv
  exact ⟨g, off, cap, hv, hc⟩
theorem NeedAt.form {ρ : Roles} {w : World} {q : Int} {m : Nat} {n : PN} (h : NeedAt ρ w q m n) : ∃ a cap, n.cv = .slice a n.cls.length cap ∧ n.cls.length ≤ cap := by
  obtain ⟨a, cap, hv, hc⟩ := h.arr.form
  rw [List.length_map] at hv hc
  exact ⟨a, cap, hv, hc⟩
set_option maxRecDepth 100000 in
set_option maxHeartbeats 1000000 in
/-- THE WALK: find's closure. -/
theorem pfindC_any (B nb : Nat) (s t : ByteArray) (w : World) (h1 : w.cell? ⟨B, 0, none⟩ = some (.string s)) (h2 : w.cell? ⟨nb, 0, none⟩ = some (.string t)) :
    Calls Tryz.prog 56 #[.pointer (some ⟨nb, 0, none⟩), .pointer (some ⟨B, 0, none⟩)] w fun e w' => e = .returned (.bool (eqS t s)) ∧ Below w.heap.size w w' := by
  go_enter Tryz.func56, Tryz.ntmps56
  go_wp2
  go_quiet (fail)
  go_wp2
  go_ret
  exact ⟨rfl, below_drewN (Below.refl _ _) _⟩
def PFRel (s : ByteArray) (ns : List PN) (w : World) (i : Value) (wr : World) : Prop := ∃ k : Nat, i = .int .i64 k ∧ k ≤ ns.length ∧ (∀ j y, j < k → ns[j]? = some y → eqS y.name s = false) ∧ Below w.heap.size w wr
section
variable {ρ : Roles} {P : Nat} {x : PX} {next : Int} {v : Value} {L : List PN}
set_option maxRecDepth 100000 in
set_option maxHeartbeats 1000000 in
/-- THE WALK: slices.IndexFunc at needs. -/
theorem pfindIx_any (B : Nat) (s : ByteArray) (w : World) (hS : PoolAt ρ w P x next v L) (hf : L.length ≤ 1000000) (hc : w.cell? ⟨B, 0, none⟩ = some (.string s)) :
    Calls Tryz.prog 55 #[v, .func (.func 56) #[] #[.pointer (some ⟨B, 0, none⟩)]] w fun e w' => e = .returned (.int .i64 (placeP s L)) ∧ Below w.heap.size w w' := by
  have HS := Lib.hid hS
  have HK := Lib.hid hc
  obtain ⟨a, cap, rfl, -⟩ := hS.form
  have hfew := hf
  clear hS hc hf
  go_enter Tryz.func55, Tryz.ntmps55
  go_wp2
  go_loopw [8] (fun i wr => PFRel s L w i wr) (fun i _ => L.length - (intOf i).toNat)
  case atStart => exact ⟨0, rfl, Nat.zero_le _, (fun j y hj => by omega), Below.refl _ _⟩
  case round =>
    obtain ⟨k, rfl, hk, hn, hb⟩ := hrel
    have HB := Lib.hid hb
    have HN := Lib.hid hn
    clear hb hn
    by_cases hlt : k < L.length
    · obtain ⟨y, hy⟩ : ∃ y, L[k]? = some y := ⟨_, List.getElem?_eq_getElem hlt⟩
      obtain ⟨g, off, cap', hv, hc⟩ := HS.out.at hy
      cases hv
      have d0 := cell_below HB.out hc
      have HX := Lib.hid hy
      clear hy hc
      go_wp2_with fail
      refine (pfindC_any B y.blk s y.name _ (cell_below HB.out HK.out) (cell_below HB.out (HS.out.n0 HX.out))).mono ?_
      rintro e w1 ⟨rfl, hb1⟩
      have HB1 := Lib.hid (HB.out.trans (hb1.mono HB.out.size))
      clear hb1 d0
      rcases hp : eqS y.name s with _ | _
      · have HP := Lib.hid hp
        clear hp
        go_wp2_with fail
        go_roundw
        case rel =>
          refine ⟨k + 1, by go_num, by omega, fun j z hj hz => ?_, HB1.out⟩
          rcases Nat.lt_or_ge j k with h | h
          · exact HN.out j z h hz
          · obtain rfl : j = k := by omega
            obtain rfl : y = z := Option.some.inj (HX.out.symm.trans hz)
            exact HP.out
        case measure => simp [intOf]; omega
      · have HP := Lib.hid (placeP_of HX.out hp HN.out)
        clear hp
        go_wp2_with fail
        go_ret
        exact ⟨ret_int HP.out.symm, HB1.out⟩
    · have HP := Lib.hid (placeP_none (s := s) (ns := L) (fun j y hj hy => HN.out j y (by omega) hy))
      go_wp2
      go_ret
      exact ⟨ret_int HP.out.symm, HB.out⟩
set_option maxRecDepth 100000 in
set_option maxHeartbeats 1000000 in
/-- THE WALK: find. -/
theorem pfind_any (s : ByteArray) (w : World) (hS : PoolAt ρ w P x next v L) (hf : L.length ≤ 1000000) :
    Calls Tryz.prog 27 #[.pointer (some ⟨P, 0, none⟩), .string s] w fun e w' => e = .returned (.int .i64 (placeP s L)) ∧ Below w.heap.size w w' := by
  have HS := Lib.hid hS
  have HF := Lib.hid hf
  have c4 : w.cell? ⟨P, 4, none⟩ = some v := fr_cell_of_heap hS.head rfl
  have hlt := fp_lt_of_heap hS.head
  clear hS hf
  go_enter Tryz.func27, Tryz.ntmps27
  go_wp2_with fail
  refine (pfindIx_any _ s _ (HS.out.below box_below) HF.out (by simp)).mono ?_
  rintro e w1 ⟨rfl, hb1⟩
  go_wp2
  go_ret
  exact ⟨rfl, box_below.trans (hb1.mono (by simp))⟩
set_option maxRecDepth 100000 in
set_option maxHeartbeats 1000000 in
/-- THE WALK: tick. -/
theorem ptick_any (w : World) (hS : PoolAt ρ w P x next v L) (hn : 0 ≤ next ∧ next < 1000000000) :
    Calls Tryz.prog 28 #[.pointer (some ⟨P, 0, none⟩)] w fun e w' => e = .returned (.int .i64 next) ∧ Fp (fun j => j = P) w w' ∧ w'.heap[P]? = some (ppO x (next + 1) v) := by
  have HS := Lib.hid hS
  have c3 : w.cell? ⟨P, 3, none⟩ = some (.int .i64 next) := fr_cell_of_heap hS.head rfl
  have f3 : w.frozen? ⟨P, 3, none⟩ = false := fr_free_of_heap hS.head
  have e1 : wrap64 (next + 1) = next + 1 := by unfold wrap64; omega
  have e2 : wrap64 next = next := by unfold wrap64; omega
  clear hS hn
  go_enter Tryz.func28, Tryz.ntmps28
  go_upto_region 2 with fail
  try rw [e1]
  obtain ⟨w1, hw1⟩ : ∃ w1 : World, w1 = w.setCell ⟨P, 3, none⟩ (.int .i64 (next + 1)) := ⟨_, rfl⟩
  rw [← hw1]
  have hh : w1.heap[P]? = some (ppO x (next + 1) v) := by rw [hw1]; exact fr_setCell_at HS.out.head
  have HH := Lib.hid hh
  have HF := Lib.hid (show Fp (fun j => j = P) w w1 by rw [hw1]; exact (Fp.refl (fun j => j = P) w).setCell (p := ⟨P, 3, none⟩) (fun _ => rfl) _)
  have d3 : w1.cell? ⟨P, 3, none⟩ = some (.int .i64 (next + 1)) := fr_cell_of_heap hh rfl
  clear hw1 hh c3 f3 e1
  go_wp2_with fail
  go_ret
  exact ⟨ret_int e2, HF.out, HH.out⟩
set_option maxRecDepth 100000 in
set_option maxHeartbeats 2000000 in
/-- THE WALK: Share, where there is none. -/
theorem pshare_none (s : ByteArray) (k : Int) (w : World) (hS : PoolAt ρ w P x next v L) (hf : L.length ≤ 1000000) (h : placeP s L = -1 ∨ k < 0 ∨ (x.classes : Int) ≤ k) :
    Calls Tryz.prog 30 #[.pointer (some ⟨P, 0, none⟩), .string s, .int .i64 k] w fun e w' => e = .returned (.pointer none) ∧ Below w.heap.size w w' := by
  have HS := Lib.hid hS
  have HF := Lib.hid hf
  have hp : placeP s L < 0 ∨ (¬ placeP s L < 0 ∧ k < 0) ∨ (¬ placeP s L < 0 ∧ ¬ k < 0 ∧ (x.classes : Int) ≤ k) := by omega
  clear hS hf h
  go_enter Tryz.func30, Tryz.ntmps30
  go_wp2_with fail
  refine (pfind_any s _ HS.out HF.out).mono ?_
  rintro e w1 ⟨rfl, hb1⟩
  have HB1 := Lib.hid hb1
  have c1 : w1.cell? ⟨P, 1, none⟩ = some (.int .i64 x.classes) := fr_cell_of_heap (HS.out.below hb1).head rfl
  clear hb1
  obtain ⟨i, hi⟩ : ∃ i, i = placeP s L := ⟨_, rfl⟩
  rw [← hi]
  rw [← hi] at hp
  clear hi
  rcases hp with h1 | ⟨h1, h2⟩ | ⟨h1, h2, h3⟩
  all_goals
    go_wp2_with fail
    go_ret
    exact ⟨rfl, HB1.out⟩
set_option maxRecDepth 100000 in
set_option maxHeartbeats 2000000 in
/-- THE WALK: Share. -/
theorem pshare_some (s : ByteArray) (i k : Nat) (n : PN) (c : PC) (w : World) (hS : PoolAt ρ w P x next v L) (hf : L.length ≤ 1000000) (hp : placeP s L = i) (hn : L[i]? = some n) (hc : n.cls[k]? = some c) (_hx : x.classes ≤ 1000000) :
    Calls Tryz.prog 30 #[.pointer (some ⟨P, 0, none⟩), .string s, .int .i64 k] w fun e w' => e = .returned (.pointer (some ⟨c.f, 0, none⟩)) ∧ Below w.heap.size w w' := by
  have HS := Lib.hid hS
  have HF := Lib.hid hf
  have HP := Lib.hid hp
  have HN := Lib.hid hn
  have HC := Lib.hid hc
  have hil : i < L.length := (List.getElem?_eq_some_iff.1 hn).1
  have hkl : k < n.cls.length := (List.getElem?_eq_some_iff.1 hc).1
  have hlen := (hS.need i n hn).len
  clear hS hp hn hc
  go_enter Tryz.func30, Tryz.ntmps30
  go_wp2_with fail
  refine (pfind_any s _ HS.out HF.out).mono ?_
  rintro e w1 ⟨rfl, hb1⟩
  rw [HP.out]
  have HB1 := Lib.hid hb1
  have hS1 := HS.out.below hb1
  have hN1 := hS1.need i n HN.out
  obtain ⟨g, off, cap, hv, hg⟩ := hS1.at HN.out
  obtain ⟨g2, off2, cap2, hv2, hg2⟩ := hN1.at HC.out
  have c1 : w1.cell? ⟨P, 1, none⟩ = some (.int .i64 x.classes) := fr_cell_of_heap hS1.head rfl
  have c4 : w1.cell? ⟨P, 4, none⟩ = some (.slice (some ⟨g, off, none⟩) L.length cap) := by rw [← hv]; exact fr_cell_of_heap hS1.head rfl
  have n2 : w1.cell? ⟨n.blk, 2, none⟩ = some (.slice (some ⟨g2, off2, none⟩) n.cls.length cap2) := by rw [← hv2]; exact fr_cell_of_heap hN1.blk rfl
  have k1 : w1.cell? ⟨c.blk, 1, none⟩ = some (.pointer (some ⟨c.f, 0, none⟩)) := fr_cell_of_heap (hN1.cls k c HC.out).blk rfl
  have h1 : ¬ (x.classes : Int) ≤ k := by omega
  have h2 : (i : Int) < (L.length : Int) := by omega
  have h3 : (k : Int) < (n.cls.length : Int) := by omega
  clear hb1 hS1 hN1 hv hv2
  go_wp2_with fail
  go_ret
  exact ⟨rfl, HB1.out⟩
end
end Go.Proofs.YtdbjihkgafhakaaGreatDoor
