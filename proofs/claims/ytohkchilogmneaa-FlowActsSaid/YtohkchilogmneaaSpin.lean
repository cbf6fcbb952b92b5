/-
  spin.Ring: how a ring lies in memory; Find: the walks.
-/
import Derived.Test.YtohkchilogmneaaArr
import Derived.Test.YtohkchilogmneaaOwn
import Derived.BigQuiet
import Derived.Deep.QuietTactic
namespace Go.Proofs.Ytohkchilogmneaa
open Go.RowKit

structure Nd where
  id : Int
  wt : Int
  df : Int
  blk : Nat
  src : Value
def ndC (n : Nd) : Array Value := #[.int .i64 n.id, .int .i64 n.wt, .int .i64 n.df, n.src]
/-- A ring, at block sp; v: its nodes' slice. -/
structure SpinAt (pre : List Int) (ρ : Roles) (w : World) (sp : Nat) (q : Int) (gv : Bool) (v : Value) (ns : List Nd) : Prop where
  head : w.heap[sp]? = some (.cells #[.int .i64 q, v, .bool gv] 100 (0, 0))
  rs : ρ sp = pre ++ [1]
  arr : ArrIn 104 w v (ns.map Nd.blk)
  ra : ∀ k, v.ownBlock = some k → ρ k = pre ++ [3]
  node : ∀ (i : Nat) n, ns[i]? = some n → ρ n.blk = pre ++ [4, n.id] ∧ w.heap[n.blk]? = some (.cells (ndC n) 111 (0, 0))
  once : (ns.map Nd.id).Nodup
  few : ns.length ≤ 1000000
section
variable {pre : List Int} {ρ ρ' : Roles} {w w' : World} {sp : Nat} {q : Int} {gv : Bool} {v : Value} {ns : List Nd}
theorem SpinAt.later (h : SpinAt pre ρ w sp q gv v ns) (hl : Later ρ ρ' w) : SpinAt pre ρ' w sp q gv v ns :=
  ⟨h.head, (hl sp (fp_lt_of_heap h.head)).trans h.rs, h.arr, fun k hk => (hl k (h.arr.lt k hk)).trans (h.ra k hk), fun i n hn => ⟨(hl _ (fp_lt_of_heap (h.node i n hn).2)).trans (h.node i n hn).1, (h.node i n hn).2⟩, h.once, h.few⟩
/-- The blocks of the ring itself. -/
def SpinPart (ρ : Roles) (pre : List Int) (k : Nat) : Prop := ρ k = pre ++ [1] ∨ ρ k = pre ++ [3] ∨ ∃ id, ρ k = pre ++ [4, id]
theorem SpinAt.frame (h : SpinAt pre ρ w sp q gv v ns) {S : Nat → Prop} (hf : Fp S w w') (hS : ∀ k, k < w.heap.size → SpinPart ρ pre k → ¬ S k) : SpinAt pre ρ w' sp q gv v ns :=
  ⟨hf.heap h.head (hS sp (fp_lt_of_heap h.head) (.inl h.rs)), h.rs, h.arr.frame hf (fun k hk => hS k (h.arr.lt k hk) (.inr (.inl (h.ra k hk)))), h.ra,
    fun i n hn => ⟨(h.node i n hn).1, hf.heap (h.node i n hn).2 (hS _ (fp_lt_of_heap (h.node i n hn).2) (.inr (.inr ⟨_, (h.node i n hn).1⟩)))⟩, h.once, h.few⟩
theorem SpinAt.below (h : SpinAt pre ρ w sp q gv v ns) (hb : Below w.heap.size w w') : SpinAt pre ρ w' sp q gv v ns := h.frame (S := fun _ => False) (Fp.of_below hb) (fun _ _ _ h => h)
theorem SpinAt.c0 (h : SpinAt pre ρ w sp q gv v ns) : w.cell? ⟨sp, 0, none⟩ = some (.int .i64 q) := fr_cell_of_heap h.head rfl
theorem SpinAt.c1 (h : SpinAt pre ρ w sp q gv v ns) : w.cell? ⟨sp, 1, none⟩ = some v := fr_cell_of_heap h.head rfl
theorem SpinAt.c2 (h : SpinAt pre ρ w sp q gv v ns) : w.cell? ⟨sp, 2, none⟩ = some (.bool gv) := fr_cell_of_heap h.head rfl
theorem SpinAt.n0 (h : SpinAt pre ρ w sp q gv v ns) {i : Nat} {n : Nd} (hn : ns[i]? = some n) : w.cell? ⟨n.blk, 0, none⟩ = some (.int .i64 n.id) := fr_cell_of_heap (h.node i n hn).2 rfl
theorem SpinAt.at (h : SpinAt pre ρ w sp q gv v ns) {i : Nat} {n : Nd} (hn : ns[i]? = some n) : ∃ g off cap, v = .slice (some ⟨g, off, none⟩) ns.length cap ∧ w.cell? ⟨g, off + i, none⟩ = some (.pointer (some ⟨n.blk, 0, none⟩)) := by
  obtain ⟨g, off, cap, hv, hc⟩ := h.arr.at (i := i) (b := n.blk) (by simp [hn])
  rw [List.length_map] at hv
  exact ⟨g, off, cap, hv, hc⟩
theorem SpinAt.form (h : SpinAt pre ρ w sp q gv v ns) : ∃ a cap, v = .slice a ns.length cap ∧ ns.length ≤ cap := by
  obtain ⟨a, cap, hv, hc⟩ := h.arr.form
  rw [List.length_map] at hv hc
  exact ⟨a, cap, hv, hc⟩
end
def idB (id : Int) (n : Nd) : Bool := n.id == id
def placeN (id : Int) (ns : List Nd) : Int := match ns.findIdx? (idB id) with
  | some i => i
  | none => -1
theorem place_hit {id : Int} : ∀ {ns : List Nd} {k : Nat} {n : Nd}, ns[k]? = some n → n.id = id → (∀ j y, j < k → ns[j]? = some y → y.id ≠ id) → ns.findIdx? (idB id) = some k
  | [], _, _, h, _, _ => by simp at h
  | y :: r, 0, n, h, hp, _ => by
    simp at h
    subst h
    simp [List.findIdx?_cons, idB, hp]
  | y :: r, k + 1, n, h, hp, hn => by
    have h0 := hn 0 y (by omega) rfl
    have ih := place_hit (ns := r) (k := k) (by simpa using h) hp (fun j z hj hz => hn (j + 1) z (by omega) (by simpa using hz))
    simp [List.findIdx?_cons, idB, h0] at ih ⊢
    exact ih
theorem place_of {id : Int} {ns : List Nd} {k : Nat} {n : Nd} (h : ns[k]? = some n) (hp : n.id = id) (hn : ∀ j y, j < k → ns[j]? = some y → y.id ≠ id) : placeN id ns = k := by
  unfold placeN; rw [place_hit h hp hn]
theorem place_none {id : Int} {ns : List Nd} (hn : ∀ j y, j < ns.length → ns[j]? = some y → y.id ≠ id) : placeN id ns = -1 := by
  unfold placeN
  have : ns.findIdx? (idB id) = none := by
    rw [List.findIdx?_eq_none_iff]
    intro x hx
    obtain ⟨j, hj, rfl⟩ := List.getElem_of_mem hx
    have := hn j _ hj (List.getElem?_eq_getElem hj)
    simp [idB, this]
  rw [this]
theorem place_cases (id : Int) (ns : List Nd) : placeN id ns = -1 ∧ (∀ n ∈ ns, n.id ≠ id) ∨ ∃ (k : Nat) (n : Nd), placeN id ns = k ∧ ns[k]? = some n ∧ n.id = id := by
  rcases h : ns.findIdx? (idB id) with _ | k
  · refine .inl ⟨by unfold placeN; rw [h], fun n hn => ?_⟩
    have := List.findIdx?_eq_none_iff.1 h n hn
    simpa [idB] using this
  · obtain ⟨hk, hp, _⟩ := List.findIdx?_eq_some_iff_getElem.1 h
    exact .inr ⟨k, ns[k], by unfold placeN; rw [h], List.getElem?_eq_getElem hk, by simpa [idB] using hp⟩
set_option maxRecDepth 100000 in
set_option maxHeartbeats 1000000 in
theorem findC_any (B nb : Nat) (id n : Int) (w : World) (hc : w.cell? ⟨B, 0, none⟩ = some (.int .i64 id)) (hn : w.cell? ⟨nb, 0, none⟩ = some (.int .i64 n)) :
    Calls Try.prog 97 #[.pointer (some ⟨nb, 0, none⟩), .pointer (some ⟨B, 0, none⟩)] w fun e w' => e = .returned (.bool (n == id)) ∧ Below w.heap.size w w' := by
  go_enter Try.func97, Try.ntmps97
  go_wp2
  go_quiet (fail)
  go_wp2
  go_ret
  exact ⟨rfl, below_drewN (Below.refl _ _) _⟩
def FRel (id : Int) (ns : List Nd) (w : World) (i : Value) (wr : World) : Prop := ∃ k : Nat, i = .int .i64 k ∧ k ≤ ns.length ∧ (∀ j y, j < k → ns[j]? = some y → y.id ≠ id) ∧ Below w.heap.size w wr
section
variable {pre : List Int} {ρ : Roles} {sp : Nat} {q : Int} {gv : Bool} {v : Value} {ns : List Nd}
set_option maxRecDepth 100000 in
set_option maxHeartbeats 1000000 in
/-- THE WALK: slices.IndexFunc at nodes. -/
theorem findIx_any (B : Nat) (id : Int) (w : World) (hS : SpinAt pre ρ w sp q gv v ns) (hc : w.cell? ⟨B, 0, none⟩ = some (.int .i64 id)) :
    Calls Try.prog 96 #[v, .func (.func 97) #[] #[.pointer (some ⟨B, 0, none⟩)]] w fun e w' => e = .returned (.int .i64 (placeN id ns)) ∧ Below w.heap.size w w' := by
  have HS := Lib.hid hS
  have HK := Lib.hid hc
  obtain ⟨a, cap, rfl, -⟩ := hS.form
  have hfew := hS.few
  clear hS hc
  go_enter Try.func96, Try.ntmps96
  go_wp2
  go_loopw [8] (fun i wr => FRel id ns w i wr) (fun i _ => ns.length - (intOf i).toNat)
  case atStart => exact ⟨0, rfl, Nat.zero_le _, (fun j y hj => by omega), Below.refl _ _⟩
  case round =>
    obtain ⟨k, rfl, hk, hn, hb⟩ := hrel
    have HB := Lib.hid hb
    have HN := Lib.hid hn
    clear hb hn
    by_cases hlt : k < ns.length
    · obtain ⟨x, hx⟩ : ∃ x, ns[k]? = some x := ⟨_, List.getElem?_eq_getElem hlt⟩
      obtain ⟨g, off, cap', hv, hc⟩ := HS.out.at hx
      cases hv
      have d0 := cell_below HB.out hc
      have HX := Lib.hid hx
      clear hx hc
      go_wp2_with fail
      refine (findC_any B x.blk id x.id _ (cell_below HB.out HK.out) (cell_below HB.out (HS.out.n0 HX.out))).mono ?_
      rintro e w1 ⟨rfl, hb1⟩
      have HB1 := Lib.hid (HB.out.trans (hb1.mono HB.out.size))
      clear hb1 d0
      by_cases hp : x.id = id
      · have HP := Lib.hid (place_of HX.out hp HN.out)
        have hpb : (x.id == id) = true := beq_iff_eq.2 hp
        clear hp
        rw [hpb]
        clear hpb
        go_wp2_with fail
        go_ret
        exact ⟨ret_int HP.out.symm, HB1.out⟩
      · have HP := Lib.hid hp
        have hpb : (x.id == id) = false := beq_eq_false_iff_ne.2 hp
        clear hp
        rw [hpb]
        clear hpb
        go_wp2_with fail
        go_roundw
        case rel =>
          refine ⟨k + 1, by go_num, by omega, fun j y hj hy => ?_, HB1.out⟩
          rcases Nat.lt_or_ge j k with h | h
          · exact HN.out j y h hy
          · obtain rfl : j = k := by omega
            obtain rfl : x = y := Option.some.inj (HX.out.symm.trans hy)
            exact HP.out
        case measure => simp [intOf]; omega
    · have HP := Lib.hid (place_none (id := id) (ns := ns) (fun j y hj hy => HN.out j y (by omega) hy))
      go_wp2
      go_ret
      exact ⟨ret_int HP.out.symm, HB.out⟩
set_option maxRecDepth 100000 in
set_option maxHeartbeats 1000000 in
theorem spinFind_none (id : Int) (w : World) (hS : SpinAt pre ρ w sp q gv v ns) (h : ∀ n ∈ ns, n.id ≠ id) :
    Calls Try.prog 82 #[.pointer (some ⟨sp, 0, none⟩), .int .i64 id] w fun e w' => e = .returned (.pointer none) ∧ Below w.heap.size w w' := by
  have HS := Lib.hid hS
  have HI := Lib.hid (place_none (id := id) (ns := ns) (fun j y _ hy => h y (List.mem_of_getElem? hy)))
  have c1 := hS.c1
  have hlt := fp_lt_of_heap hS.head
  clear hS h
  go_enter Try.func82, Try.ntmps82
  go_wp2_with fail
  refine (findIx_any _ id _ (HS.out.below box_below) (by simp)).mono ?_
  rintro e w1 ⟨rfl, hb1⟩
  rw [HI.out]
  go_wp2
  go_ret
  exact ⟨rfl, box_below.trans (hb1.mono (by simp))⟩
set_option maxRecDepth 100000 in
set_option maxHeartbeats 1000000 in
/-- THE WALK: Find. -/
theorem spinFind_some (id : Int) (k : Nat) (n : Nd) (w : World) (hS : SpinAt pre ρ w sp q gv v ns) (hn : ns[k]? = some n) (h : placeN id ns = k) :
    Calls Try.prog 82 #[.pointer (some ⟨sp, 0, none⟩), .int .i64 id] w fun e w' => e = .returned (.pointer (some ⟨n.blk, 0, none⟩)) ∧ Below w.heap.size w w' := by
  have HS := Lib.hid hS
  have HI := Lib.hid h
  have c1 := hS.c1
  have hlt := fp_lt_of_heap hS.head
  obtain ⟨g, off, cap, rfl, hc⟩ := hS.at hn
  have hkl : k < ns.length := (List.getElem?_eq_some_iff.1 hn).1
  have hfew := hS.few
  have HC := Lib.hid hc
  clear hS h hn hc
  go_enter Try.func82, Try.ntmps82
  go_wp2_with fail
  refine (findIx_any _ id _ (HS.out.below box_below) (by simp)).mono ?_
  rintro e w1 ⟨rfl, hb1⟩
  rw [HI.out]
  have HB1 := Lib.hid (box_below.trans (hb1.mono (by simp)))
  clear hb1 c1
  have c1 := (HS.out.below HB1.out).c1
  have d := cell_below HB1.out HC.out
  go_wp2
  go_ret
  exact ⟨rfl, HB1.out⟩
end
end Go.Proofs.Ytohkchilogmneaa
