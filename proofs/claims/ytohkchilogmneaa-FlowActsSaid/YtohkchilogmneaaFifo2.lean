/-
  fifo.Queue: All, Push: the walks.
-/
import Derived.Test.YtohkchilogmneaaFifo
import Derived.Deep.LoopGhost
import Derived.Deep.DeepCutAuto
import Derived.BigRegion
import Derived.Deep.RegionHeld3
namespace Go.Proofs.Ytohkchilogmneaa
open Go.RowKit

def encI (x : It) : List Value := [.int .i64 x.id, .int .i64 x.cost]
theorem encI_len (x : It) : (encI x).length = 2 := rfl
def flatI (l : List It) : List Value := l.flatMap encI
theorem flatI_len (l : List It) : (flatI l).length = l.length * 2 := flat_len encI 2 encI_len l
theorem flatI_snoc (l : List It) (x : It) : flatI (l ++ [x]) = flatI l ++ encI x := by simp [flatI]
theorem item_info : (Try.prog.info? 37).map (fun i => (i.zero, i.size, i.bytes)) = some (some (.agg #[.int .i64 0, .int .i64 0]), 2, 16) := by kernel_rfl
/-- A slice of items, wherever it lies. -/
def ItsAt (w : World) (v : Value) (l : List It) : Prop :=
  ∃ a cap, v = .slice a l.length cap ∧ ∀ (j : Nat) u, (flatI l)[j]? = some u → ∃ g off, a = some ⟨g, off, none⟩ ∧ w.cell? ⟨g, off + j, none⟩ = some u
theorem ItsAt.below {w w' : World} {v : Value} {l : List It} (h : ItsAt w v l) (hb : Below w.heap.size w w') : ItsAt w' v l := by
  obtain ⟨a, cap, rfl, hc⟩ := h
  exact ⟨a, cap, rfl, fun j u hu => by obtain ⟨g, off, ha, h0⟩ := hc j u hu; exact ⟨g, off, ha, cell_below hb h0⟩⟩
theorem ItsAt.own {w : World} {base : Nat} {v : Value} {l : List It} (h : w.ownsRow base 37 2 v l.length (flatI l)) : ItsAt w v l := by
  obtain ⟨a, cap, rfl, _, _, _, hc⟩ := own_cells h
  exact ⟨a, cap, rfl, fun j u hu => by obtain ⟨g, ha, _, _, h0, _⟩ := hc j u hu; exact ⟨g, 0, ha, by rw [Nat.zero_add]; exact h0⟩⟩
def AllPost (l : List It) (w : World) (e : Ending) (w' : World) : Prop := ∃ v, e = .returned v ∧ w'.ownsRow w.heap.size 37 2 v l.length (flatI l) ∧ Below w.heap.size w w'
def ARel (lk : Int → Nat) (l : List It) (w : World) (g : Nat) (ov p : Value) (wr : World) : Prop :=
  ∃ k : Nat, g = l.length - k ∧ k ≤ l.length ∧ p = lkP lk l[k]? ∧ wr.ownsRow w.heap.size 37 2 ov (l.take k).length (flatI (l.take k)) ∧ Below w.heap.size w wr
section
variable {pre : List Int} {ρ : Roles} {q : Nat} {l : List It}
set_option maxRecDepth 100000 in
set_option maxHeartbeats 2000000 in
theorem fifoAll_nil (w : World) : Calls Try.prog 57 #[.pointer none] w fun e w' => e = .returned (.slice none 0 0) ∧ w = w' := by
  go_enter Try.func57, Try.ntmps57
  go_wp2
  go_ret
  exact ⟨rfl, rfl⟩
set_option maxRecDepth 100000 in
set_option maxHeartbeats 2000000 in
/-- THE WALK: All. -/
theorem fifoAll_any (w : World) (hQ : QueAt pre ρ w q l) : Calls Try.prog 57 #[.pointer (some ⟨q, 0, none⟩)] w (AllPost l w) := by
  obtain ⟨m, lk, D, hq⟩ := hQ
  have HQ := Lib.hid hq
  have c0 := hq.c0
  have HF := Lib.hid hq.good.few
  clear hq
  go_enter Try.func57, Try.ntmps57
  go_wp2_with fail
  go_loopg [3, 4] l.length (fun g ov p wr => ARel lk l w g ov p wr)
  case atStart => exact ⟨0, rfl, Nat.zero_le _, by cases l <;> rfl, own_nil _ _ _ _, Below.refl _ _⟩
  case round =>
    obtain ⟨k, hg, hk, rfl, hown, hb⟩ := hrel
    have HB := Lib.hid hb
    have HO := Lib.hid hown
    have HG := Lib.hid hg
    clear hb hown hg c0
    rcases hx : l[k]? with _ | x
    · have hkl : l.length ≤ k := List.getElem?_eq_none_iff.1 hx
      rw [show lkP lk none = .pointer none from rfl]
      obtain rfl : k = l.length := by omega
      have HO2 := Lib.hid (show wr.ownsRow w.heap.size 37 2 u3 l.length (flatI l) by have h := HO.out; rw [List.take_length] at h; exact h)
      clear hkl hx
      go_wp2_with fail
      go_ret
      exact ⟨u3, rfl, HO2.out, HB.out⟩
    · have hlt : k < l.length := (List.getElem?_eq_some_iff.1 hx).1
      have hl := HQ.out.link k x hx
      have hh := (HB.out.block _ (fp_lt_of_heap hl.2)).trans hl.2
      have d0 : wr.cell? ⟨lk x.id, 0, none⟩ = some (.int .i64 x.id) := fr_cell_of_heap hh rfl
      have d1 : wr.cell? ⟨lk x.id, 1, none⟩ = some (.int .i64 x.cost) := fr_cell_of_heap hh rfl
      rw [show lkP lk (some x) = .pointer (some ⟨lk x.id, 0, none⟩) from rfl]
      have HH := Lib.hid hh
      have hf := HF.out
      have htl : (l.take k).length = k := by rw [List.length_take]; omega
      have HTL := Lib.hid htl
      have HX := Lib.hid hx
      have HLT := Lib.hid (fp_lt_of_heap hh)
      have hz0 : w.heap.size ≤ wr.heap.size := HB.out.size
      clear hl hh hx
      clear htl
      have hoo := HO.out
      rw [HTL.out] at hoo
      have HO3 := Lib.hid hoo
      clear hoo
      go_wp2_with (at_builtin; refine wpList_append_at (us := #[.int .i64 x.id, .int .i64 x.cost]) rfl _ _ 46 rfl w.heap.size _ 2 16 Try.underlying46 item_info rfl (by decide) u3 k (flatI (l.take k)) rfl HO3.out rfl rfl (by simp [Value.oneCell']) ?c1 ?c2 ?c3 ?_; (case c1 => omega); (case c2 => omega); (case c3 => omega); intro gg cap2 w5 hown5 hg5 hat5; (have HH5 := Lib.hid ((hg5.block _ HLT.out (fun e => by have h1 := own_block HO3.out _ e.symm; have h2 := fp_lt_of_heap (HQ.out.link k x HX.out).2; omega)).trans HH.out)); (have d3 : w5.cell? ⟨lk x.id, 3, none⟩ = some (lkP lk l[k + 1]?) := fr_cell_of_heap HH5.out rfl))
      have HO5 := Lib.hid (show w5.ownsRow w.heap.size 37 2 (.slice (some ⟨gg, 0, none⟩) (k + 1) cap2) (l.take (k + 1)).length (flatI (l.take (k + 1))) by
        rw [List.take_succ_eq_append_getElem hlt, (List.getElem?_eq_some_iff.1 HX.out).2, List.length_append, flatI_snoc, HTL.out]
        exact hown5)
      have HB5 := Lib.hid (HB.out.trans ⟨hg5.os, hg5.tape, hg5.output, hg5.size, fun j hj => hg5.block j (by omega) (fun e => by have := own_block HO3.out j e.symm; omega)⟩ : Below w.heap.size w w5)
      clear hown5 hg5 hat5
      go_wp2_with fail
      go_roundg (l.length - (k + 1))
      case rel => exact ⟨k + 1, rfl, by omega, rfl, HO5.out, HB5.out⟩
      case measure => have := HG.out; omega
end
end Go.Proofs.Ytohkchilogmneaa
