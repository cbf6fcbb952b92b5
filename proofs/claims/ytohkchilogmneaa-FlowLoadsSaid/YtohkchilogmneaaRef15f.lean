/-
  ref15 (flows): Push: bad arguments (the other cases are to come).
-/
import Derived.Test.YtohkchilogmneaaRef15e
namespace Go.Proofs.Ytohkchilogmneaa
open Go.RowKit
variable {G : Nat → Prop}
set_option maxRecDepth 100000 in
set_option maxHeartbeats 1000000 in
theorem r15Push_bad (id wt : Int) (x : It) (b : Nat) (q : Int) (gv : Bool) (v : Value) (l : List (FRow × Value)) (w : World) (h : RefAt G w b q gv v l) (hbad : argBad id wt) : Calls Try.prog 58 #[.pointer (some ⟨b, 0, none⟩), .int .i64 id, .int .i64 wt, .agg #[.int .i64 x.id, .int .i64 x.cost]] w fun e w' => e = .returned (.int .i64 1) ∧ Below w.heap.size w w' := by
  obtain ⟨a, cap, rfl, -⟩ := h.rows.form
  have HR := Lib.hid h
  have b0 : w.cell? ⟨b, 0, none⟩ = some (.int .i64 q) := fr_cell_of_heap h.head rfl
  have b1 : w.cell? ⟨b, 1, none⟩ = some (.slice a l.length cap) := fr_cell_of_heap h.head rfl
  have b2 : w.cell? ⟨b, 2, none⟩ = some (.bool gv) := fr_cell_of_heap h.head rfl
  have hbw := fp_lt_of_heap h.head
  clear h
  go_enter Try.func58, Try.ntmps58
  go_wp2_with fail
  refine (r15Find_any id q gv _ l _ (HR.out.below box_below).rows HR.out.few).mono ?_
  rintro e w2 ⟨rfl, hb⟩
  have HB := Lib.hid hb
  clear hb b0 b1 b2
  by_cases h0 : id < 0
  · go_wp2_with fail
    go_ret
    exact ⟨rfl, box_below2 HB.out⟩
  · by_cases h1 : wt < 1
    · go_wp2_with fail
      go_ret
      exact ⟨rfl, box_below2 HB.out⟩
    · have h2 : wt > 16 := by unfold argBad at hbad; omega
      go_wp2_with fail
      go_ret
      exact ⟨rfl, box_below2 HB.out⟩
set_option maxRecDepth 100000 in
set_option maxHeartbeats 1000000 in
theorem r15Push_wt (wt : Int) (x : It) (b : Nat) (q : Int) (gv : Bool) (v : Value) (l : List (FRow × Value)) (k : Nat) (p : FRow × Value) (w : World) (h : RefAt G w b q gv v l) (hp : l[k]? = some p) (hn : placeF p.1.id (l.map Prod.fst) = k) (hgood : ¬ argBad p.1.id wt) (hwt : p.1.wt ≠ wt) : Calls Try.prog 58 #[.pointer (some ⟨b, 0, none⟩), .int .i64 p.1.id, .int .i64 wt, .agg #[.int .i64 x.id, .int .i64 x.cost]] w fun e w' => e = .returned (.int .i64 1) ∧ Below w.heap.size w w' := by
  obtain ⟨a, cap, rfl, -⟩ := h.rows.form
  have HR := Lib.hid h
  have HN := Lib.hid hn
  have HP := Lib.hid hp
  have b0 : w.cell? ⟨b, 0, none⟩ = some (.int .i64 q) := fr_cell_of_heap h.head rfl
  have b1 : w.cell? ⟨b, 1, none⟩ = some (.slice a l.length cap) := fr_cell_of_heap h.head rfl
  have b2 : w.cell? ⟨b, 2, none⟩ = some (.bool gv) := fr_cell_of_heap h.head rfl
  have hbw := fp_lt_of_heap h.head
  have h0 : ¬ p.1.id < 0 := fun e => hgood (.inl e)
  have h1 : ¬ wt < 1 := fun e => hgood (.inr (.inl e))
  have h2 : ¬ wt > 16 := fun e => hgood (.inr (.inr e))
  clear h hn hp hgood
  go_enter Try.func58, Try.ntmps58
  go_wp2_with fail
  refine (r15Find_any p.1.id q gv _ l _ (HR.out.below box_below).rows HR.out.few).mono ?_
  rintro e w2 ⟨rfl, hb⟩
  rw [HN.out]
  have HB := Lib.hid hb
  have HR2 := Lib.hid ((HR.out.below box_below).below hb)
  obtain ⟨gb, off, cap', hv, hcap, c0, c1, c2, c3⟩ := HR2.out.rows.at HP.out
  have b1 : w2.cell? ⟨b, 1, none⟩ = some (.slice (some ⟨gb, off, none⟩) l.length cap') := by rw [← hv]; exact fr_cell_of_heap HR2.out.head rfl
  have hk : k < l.length := (List.getElem?_eq_some_iff.1 HP.out).1
  have hk0 : (k : Int) ≥ 0 := by omega
  have hne : (p.1.wt != wt) = true := by simp [hwt]
  clear hb b0 b2 c0 c2 c3 hv
  go_wp2_with fail
  go_ret
  exact ⟨rfl, box_below2 HB.out⟩
end Go.Proofs.Ytohkchilogmneaa
