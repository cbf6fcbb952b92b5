/-
  ref15 (flows): Drop: the walk.
-/
import Derived.Test.YtohkchilogmneaaRef15d
namespace Go.Proofs.Ytohkchilogmneaa
open Go.RowKit
variable {G : Nat → Prop}
set_option maxRecDepth 100000 in
set_option maxHeartbeats 1000000 in
theorem r15Drop_none (id i : Int) (b : Nat) (q : Int) (gv : Bool) (v : Value) (l : List (FRow × Value)) (w : World) (h : RefAt G w b q gv v l) (hn : placeF id (l.map Prod.fst) = -1) : Calls Try.prog 61 #[.pointer (some ⟨b, 0, none⟩), .int .i64 id, .int .i64 i] w fun e w' => e = .returned (.bool false) ∧ Below w.heap.size w w' := by
  have HR := Lib.hid h
  have HN := Lib.hid hn
  have b0 : w.cell? ⟨b, 0, none⟩ = some (.int .i64 q) := fr_cell_of_heap h.head rfl
  have b1 : w.cell? ⟨b, 1, none⟩ = some v := fr_cell_of_heap h.head rfl
  have b2 : w.cell? ⟨b, 2, none⟩ = some (.bool gv) := fr_cell_of_heap h.head rfl
  clear h hn
  go_enter Try.func61, Try.ntmps61
  go_wp2_with fail
  refine (r15Find_any id q gv v l _ HR.out.rows HR.out.few).mono ?_
  rintro e w2 ⟨rfl, hb⟩
  rw [HN.out]
  have HB := Lib.hid hb
  clear hb b0 b1 b2
  go_wp2_with fail
  go_ret
  exact ⟨rfl, HB.out⟩
set_option maxRecDepth 100000 in
set_option maxHeartbeats 1000000 in
theorem r15Drop_not (i : Int) (b : Nat) (q : Int) (gv : Bool) (v : Value) (l : List (FRow × Value)) (k : Nat) (p : FRow × Value) (w : World) (h : RefAt G w b q gv v l) (hp : l[k]? = some p) (hn : placeF p.1.id (l.map Prod.fst) = k) (hi : placeI i p.1.its = -1) : Calls Try.prog 61 #[.pointer (some ⟨b, 0, none⟩), .int .i64 p.1.id, .int .i64 i] w fun e w' => e = .returned (.bool false) ∧ Below w.heap.size w w' := by
  have HR := Lib.hid h
  have HN := Lib.hid hn
  have HI := Lib.hid hi
  have HP := Lib.hid hp
  have b0 : w.cell? ⟨b, 0, none⟩ = some (.int .i64 q) := fr_cell_of_heap h.head rfl
  have b1 : w.cell? ⟨b, 1, none⟩ = some v := fr_cell_of_heap h.head rfl
  have b2 : w.cell? ⟨b, 2, none⟩ = some (.bool gv) := fr_cell_of_heap h.head rfl
  clear h hn hi hp
  go_enter Try.func61, Try.ntmps61
  go_wp2_with fail
  refine (r15Find_any p.1.id q gv v l _ HR.out.rows HR.out.few).mono ?_
  rintro e w2 ⟨rfl, hb⟩
  rw [HN.out]
  have HB := Lib.hid hb
  have HR2 := Lib.hid (HR.out.below hb)
  obtain ⟨gb, off, cap', rfl, hcap, c0, c1, c2, c3⟩ := HR2.out.rows.at HP.out
  have b1 : w2.cell? ⟨b, 1, none⟩ = some (.slice (some ⟨gb, off, none⟩) l.length cap') := fr_cell_of_heap HR2.out.head rfl
  have hk : k < l.length := (List.getElem?_eq_some_iff.1 HP.out).1
  have hk0 : ¬ ((k : Int) < 0) := by omega
  have hit := HR2.out.rows.its p (List.mem_of_getElem? HP.out)
  obtain ⟨pa, pc, hpv⟩ := its_form hit
  rw [hpv] at c3
  have HIT := Lib.hid hit
  have HPV := Lib.hid hpv
  clear hb b0 b2 c0 c1 c2 hit hpv
  go_wp2_with fail
  have hpi : ItsAt w2 (.slice pa p.1.its.length pc) p.1.its := by
    have h := HIT.out
    rw [HPV.out] at h
    exact h
  refine (r14Find_any i _ p.1.its w2 hpi (HR.out.fews p (List.mem_of_getElem? HP.out))).mono ?_
  rintro e w3 ⟨rfl, h3⟩
  subst h3
  rw [HI.out]
  clear hpi b1 c3
  go_wp2_with fail
  go_ret
  exact ⟨rfl, HB.out⟩
set_option maxRecDepth 100000 in
set_option maxHeartbeats 4000000 in
theorem r15Drop_some (x : It) (j : Nat) (b : Nat) (q : Int) (gv : Bool) (v : Value) (l : List (FRow × Value)) (k : Nat) (p : FRow × Value) (w : World) (h : RefAt G w b q gv v l) (hp : l[k]? = some p) (hn : placeF p.1.id (l.map Prod.fst) = k) (hi : placeI x.id p.1.its = j) (hfull : ∀ r ∈ l.map Prod.fst, r.its ≠ []) : Calls Try.prog 61 #[.pointer (some ⟨b, 0, none⟩), .int .i64 p.1.id, .int .i64 x.id] w fun e w' => e = .returned (.bool true) ∧ Fp (fun j => j = b) w w' ∧ ∃ v' l', RefAt G w' b q (withR k { p.1 with its := dropIt p.1.its x.id } gv (l.map Prod.fst)).1 v' l' ∧ l'.map Prod.fst = (withR k { p.1 with its := dropIt p.1.its x.id } gv (l.map Prod.fst)).2 := by
  have HR := Lib.hid h
  have HN := Lib.hid hn
  have HI := Lib.hid hi
  have HP := Lib.hid hp
  have HFULL := Lib.hid hfull
  have b0 : w.cell? ⟨b, 0, none⟩ = some (.int .i64 q) := fr_cell_of_heap h.head rfl
  have b1 : w.cell? ⟨b, 1, none⟩ = some v := fr_cell_of_heap h.head rfl
  have b2 : w.cell? ⟨b, 2, none⟩ = some (.bool gv) := fr_cell_of_heap h.head rfl
  clear h hn hi hp hfull
  go_enter Try.func61, Try.ntmps61
  go_wp2_with fail
  refine (r15Find_any p.1.id q gv v l _ HR.out.rows HR.out.few).mono ?_
  rintro e w2 ⟨rfl, hb⟩
  rw [HN.out]
  have HB := Lib.hid hb
  have HR2 := Lib.hid (HR.out.below hb)
  obtain ⟨gb, off, cap', rfl, hcap, c0, c1, c2, c3⟩ := HR2.out.rows.at HP.out
  have b1 : w2.cell? ⟨b, 1, none⟩ = some (.slice (some ⟨gb, off, none⟩) l.length cap') := fr_cell_of_heap HR2.out.head rfl
  have hk : k < l.length := (List.getElem?_eq_some_iff.1 HP.out).1
  have hk0 : ¬ ((k : Int) < 0) := by omega
  have hit := HR2.out.rows.its p (List.mem_of_getElem? HP.out)
  obtain ⟨pa, pc, hpv⟩ := its_form hit
  rw [hpv] at c3
  have HIT := Lib.hid hit
  have HPV := Lib.hid hpv
  clear hb b0 b2 c0 c1 c2 hit hpv
  go_wp2_with fail
  have hpi : ItsAt w2 (.slice pa p.1.its.length pc) p.1.its := by
    have h := HIT.out
    rw [HPV.out] at h
    exact h
  refine (r14Find_any x.id _ p.1.its w2 hpi (HR.out.fews p (List.mem_of_getElem? HP.out))).mono ?_
  rintro e w3 ⟨rfl, h3⟩
  subst h3
  rw [HI.out]
  clear hpi b1 c3
  have hj0 : ¬ ((j : Int) < 0) := by omega
  have HR3 := Lib.hid (HR2.out)
  obtain ⟨gb3, off3, cap3, hv3, hcap3, c0, c1, c2, c3⟩ := HR3.out.rows.at HP.out
  rw [HPV.out] at c3
  have b1 : w2.cell? ⟨b, 1, none⟩ = some (.slice (some ⟨gb3, off3, none⟩) l.length cap3) := by rw [← hv3]; exact fr_cell_of_heap HR3.out.head rfl
  clear hv3
  go_upto_region 5 with fail
  obtain ⟨w3, hw3⟩ : ∃ w3 : World, w3 = w2.alloc (.cells #[.int .i64 p.1.id, .int .i64 p.1.wt, .int .i64 p.1.df, .slice pa p.1.its.length pc] 56) := ⟨_, rfl⟩
  obtain ⟨bx, hbx⟩ : ∃ bx : Nat, bx = w2.heap.size := ⟨_, rfl⟩
  rw [← hw3, ← hbx]
  have hB3 : Below w2.heap.size w2 w3 := by rw [hw3]; exact box_below
  have hX3 : w3.heap[bx]? = some (.cells #[.int .i64 p.1.id, .int .i64 p.1.wt, .int .i64 p.1.df, .slice pa p.1.its.length pc] 56 (0, 0)) := by rw [hw3, hbx]; exact fr_alloc_at
  have x3 : w3.cell? ⟨bx, 3, none⟩ = some (.slice pa p.1.its.length pc) := fr_cell_of_heap hX3 rfl
  have HX3 := Lib.hid hX3
  have HB3 := Lib.hid hB3
  have HBX := Lib.hid hbx
  have hz3 : w3.heap.size = bx + 1 := by rw [hw3, hbx]; simp
  have HZ3 := Lib.hid hz3
  clear hw3 hX3 hB3 hbx b1 c0 c1 c2 c3 hz3
  go_wp2_with fail
  have hit3 : ItsAt w3 (.slice pa p.1.its.length pc) p.1.its := by
    have h := HIT.out
    rw [HPV.out] at h
    exact h.below HB3.out
  refine (r14Drop_any x.id _ p.1.its w3 hit3 (HR.out.fews p (List.mem_of_getElem? HP.out))).mono ?_
  rintro e w5 ⟨v5, rfl, ho5, hB5⟩
  obtain ⟨a5, c5, rfl⟩ := its_form (ItsAt.own ho5)
  have hX5 : w5.heap[bx]? = some (.cells #[.int .i64 p.1.id, .int .i64 p.1.wt, .int .i64 p.1.df, .slice pa p.1.its.length pc] 56 (0, 0)) := (hB5.block bx (fp_lt_of_heap HX3.out)).trans HX3.out
  have f3 : w5.frozen? ⟨bx, 3, none⟩ = false := fr_free_of_heap hX5
  have HX5 := Lib.hid hX5
  have HO5 := Lib.hid ho5
  have HB5 := Lib.hid hB5
  clear hX5 ho5 hB5 x3 hit3
  have x3 : w5.cell? ⟨bx, 3, none⟩ = some (.slice pa p.1.its.length pc) := fr_cell_of_heap HX5.out rfl
  go_upto_region 6 with fail
  obtain ⟨w7, hw7⟩ : ∃ w7 : World, w7 = w5.setCell ⟨bx, 3, none⟩ (.slice a5 (dropIt p.1.its x.id).length c5) := ⟨_, rfl⟩
  rw [← hw7]
  have hF57 : Fp (fun j => j = bx) w5 w7 := by rw [hw7]; exact (Fp.refl (fun j => j = bx) w5).setCell (p := ⟨bx, 3, none⟩) (fun _ => rfl) _
  have hX7 : w7.heap[bx]? = some (.cells #[.int .i64 p.1.id, .int .i64 p.1.wt, .int .i64 p.1.df, .slice a5 (dropIt p.1.its x.id).length c5] 56 (0, 0)) := by rw [hw7]; exact fr_setCell_at HX5.out
  have x0 : w7.cell? ⟨bx, 0, none⟩ = some (.int .i64 p.1.id) := fr_cell_of_heap hX7 rfl
  have x1 : w7.cell? ⟨bx, 1, none⟩ = some (.int .i64 p.1.wt) := fr_cell_of_heap hX7 rfl
  have x2 : w7.cell? ⟨bx, 2, none⟩ = some (.int .i64 p.1.df) := fr_cell_of_heap hX7 rfl
  have x3 : w7.cell? ⟨bx, 3, none⟩ = some (.slice a5 (dropIt p.1.its x.id).length c5) := fr_cell_of_heap hX7 rfl
  have HF57 := Lib.hid hF57
  clear hw7 hX7 hF57 f3
  go_wp2_with fail
  have hsz3 := HZ3.out
  have hbxe := HBX.out
  have hbw2 := fp_lt_of_heap HR2.out.head
  have hbxb : ¬ b = bx := by omega
  have hlen : l ≠ [] := fun e => by rw [e] at hk; simp at hk
  have hR7 : RefAt G w7 b q gv _ l := ((HR2.out.below HB3.out).below HB5.out).fp HF57.out hbxb (fun j hj e => by
    have := rows_lt HR2.out.rows.rows hlen j hj
    omega) (fun p' hp' j hj e => by
    have := its_lt (HR2.out.rows.its p' hp') (HFULL.out p'.1 (List.mem_map_of_mem hp')) j hj
    omega)
  have hit7 : ItsAt w7 (.slice a5 (dropIt p.1.its x.id).length c5) (dropIt p.1.its x.id) := (ItsAt.own HO5.out).fp HF57.out (fun j hj e => by
    have h1 := own_block HO5.out j hj
    omega)
  have hvb : InG G w7 (Value.slice a5 (dropIt p.1.its x.id).length c5) := (own_inG HO5.out (fun k hk => (HR2.out.below HB3.out).up k hk)).grow HF57.out.size
  have hfew : (dropIt p.1.its x.id).length ≤ 1000000 := Nat.le_trans (List.length_filter_le _ _) (HR.out.fews p (List.mem_of_getElem? HP.out))
  refine (r15With_any b q gv _ l k { p.1 with its := dropIt p.1.its x.id } (.slice a5 (dropIt p.1.its x.id).length c5) w7 hR7 hk hit7 hvb hfew).mono ?_
  rintro e w8 ⟨rfl, hF8, v8, hR8⟩
  have HF8 := Lib.hid hF8
  have HR8 := Lib.hid hR8
  clear hF8 hR8 x0 x1 x2 x3 hR7 hit7 hvb hfew
  go_wp2_with fail
  go_ret
  have hsz := HB.out.size
  have hcfg := withV_rows k ({ p.1 with its := dropIt p.1.its x.id }, Value.slice a5 (dropIt p.1.its x.id).length c5) gv l
  refine ⟨rfl, ((((Fp.of_below (S := fun j => j = b) HB.out).then_below HB3.out).then_below HB5.out).trans HF57.out (fun j hj e => by omega)).trans HF8.out (fun _ _ h => h), v8, _, ?_, hcfg.2⟩
  rw [← hcfg.1]
  exact HR8.out
end Go.Proofs.Ytohkchilogmneaa
