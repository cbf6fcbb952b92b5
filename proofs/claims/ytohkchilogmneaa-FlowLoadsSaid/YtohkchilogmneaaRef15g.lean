/-
  ref15 (flows): Push on a row that is there: the walk. (draft, not built)
-/
import Derived.Test.YtohkchilogmneaaRef15f
namespace Go.Proofs.Ytohkchilogmneaa
open Go.RowKit
variable {G : Nat → Prop}
set_option maxRecDepth 100000 in
set_option maxHeartbeats 4000000 in
theorem r15Push_there (x : It) (b : Nat) (q : Int) (gv : Bool) (v : Value) (l : List (FRow × Value)) (k : Nat) (p : FRow × Value) (w : World) (h : RefAt G w b q gv v l) (hp : l[k]? = some p) (hn : placeF p.1.id (l.map Prod.fst) = k) (hgood : ¬ argBad p.1.id p.1.wt) (hfull : ∀ r ∈ l.map Prod.fst, r.its ≠ []) (hlen : p.1.its.length < 1000000) : Calls Try.prog 58 #[.pointer (some ⟨b, 0, none⟩), .int .i64 p.1.id, .int .i64 p.1.wt, .agg #[.int .i64 x.id, .int .i64 x.cost]] w fun e w' => e = .returned (.int .i64 (itE p.1.its x)) ∧ Fp (fun j => j = b) w w' ∧ ∃ v' l', RefAt G w' b q gv v' l' ∧ l'.map Prod.fst = (l.map Prod.fst).set k { p.1 with its := if itE p.1.its x = 0 then p.1.its ++ [x] else p.1.its } := by
  obtain ⟨a, cap, rfl, -⟩ := h.rows.form
  have HR := Lib.hid h
  have HN := Lib.hid hn
  have HP := Lib.hid hp
  have b0 : w.cell? ⟨b, 0, none⟩ = some (.int .i64 q) := fr_cell_of_heap h.head rfl
  have b1 : w.cell? ⟨b, 1, none⟩ = some (.slice a l.length cap) := fr_cell_of_heap h.head rfl
  have b2 : w.cell? ⟨b, 2, none⟩ = some (.bool gv) := fr_cell_of_heap h.head rfl
  have hbw := fp_lt_of_heap h.head
  have h0 : ¬ p.1.id < 0 := fun e => hgood (.inl e)
  have h1 : ¬ p.1.wt < 1 := fun e => hgood (.inr (.inl e))
  have h2 : ¬ p.1.wt > 16 := fun e => hgood (.inr (.inr e))
  have HFULL := Lib.hid hfull
  have HLEN := Lib.hid hlen
  obtain ⟨its', hits⟩ : ∃ its' : List It, its' = (if itE p.1.its x = 0 then p.1.its ++ [x] else p.1.its) := ⟨_, rfl⟩
  rw [← hits]
  have HITS := Lib.hid hits
  clear h hn hp hgood hfull hlen hits
  go_enter Try.func58, Try.ntmps58
  go_wp2_with fail
  refine (r15Find_any p.1.id q gv _ l _ (HR.out.below box_below).rows HR.out.few).mono ?_
  rintro e w2 ⟨rfl, hb⟩
  rw [HN.out]
  have HB := Lib.hid hb
  have hb' := hb
  have HR2 := Lib.hid ((HR.out.below box_below).below hb)
  obtain ⟨gb, off, cap', hv, hcap, c0, c1, c2, c3⟩ := HR2.out.rows.at HP.out
  have b1 : w2.cell? ⟨b, 1, none⟩ = some (.slice (some ⟨gb, off, none⟩) l.length cap') := by rw [← hv]; exact fr_cell_of_heap HR2.out.head rfl
  have hk : k < l.length := (List.getElem?_eq_some_iff.1 HP.out).1
  have hk0 : (k : Int) ≥ 0 := by omega
  have hne : (p.1.wt != p.1.wt) = false := by simp
  clear hb b0 b2 hv
  have hxb := (hb'.block w.heap.size (by simp)).trans fr_alloc_at
  have HXB := Lib.hid hxb
  have z0 : w2.cell? ⟨w.heap.size, 0, none⟩ = some (.int .i64 x.id) := fr_cell_of_heap hxb rfl
  have z1 : w2.cell? ⟨w.heap.size, 1, none⟩ = some (.int .i64 x.cost) := fr_cell_of_heap hxb rfl
  have hw2 := fp_lt_of_heap hxb
  clear hb' hxb
  obtain ⟨pa, pc, hpv⟩ := its_form (HR2.out.rows.its p (List.mem_of_getElem? HP.out))
  have HPV := Lib.hid hpv
  rw [hpv] at c3
  clear hpv
  go_wp2_with fail
  obtain ⟨w3, hw3⟩ : ∃ w3 : World, w3 = w2.alloc (.cells #[.int .i64 p.1.id, .int .i64 p.1.wt, .int .i64 p.1.df, .slice pa p.1.its.length pc] 56) := ⟨_, rfl⟩
  obtain ⟨bx, hbx⟩ : ∃ bx : Nat, bx = w2.heap.size := ⟨_, rfl⟩
  rw [← hw3, ← hbx]
  have hB3 : Below w2.heap.size w2 w3 := by rw [hw3]; exact box_below
  have hX3 : w3.heap[bx]? = some (.cells #[.int .i64 p.1.id, .int .i64 p.1.wt, .int .i64 p.1.df, .slice pa p.1.its.length pc] 56 (0, 0)) := by rw [hw3, hbx]; exact fr_alloc_at
  have hit2 := HR2.out.rows.its p (List.mem_of_getElem? HP.out)
  rw [HPV.out] at hit2
  have hit3 : ItsAt w3 (.slice pa p.1.its.length pc) p.1.its := hit2.below hB3
  have HX3 := Lib.hid hX3
  have HB3 := Lib.hid hB3
  have HBX := Lib.hid hbx
  have hz3 : w3.heap.size = bx + 1 := by rw [hw3, hbx]; simp
  have HZ3 := Lib.hid hz3
  clear hw3 hX3 hB3 hbx b1 c0 c1 c2 c3 hz3 hit2
  refine (r14Push_any _ p.1.its x w3 hit3 HLEN.out).mono ?_
  rintro e w5 ⟨v5, rfl, hi5, hv5, hB5⟩
  rw [← HITS.out] at hi5
  obtain ⟨a5, c5, rfl⟩ := its_form hi5
  have hX5 : w5.heap[bx]? = some (.cells #[.int .i64 p.1.id, .int .i64 p.1.wt, .int .i64 p.1.df, .slice pa p.1.its.length pc] 56 (0, 0)) := (hB5.block bx (fp_lt_of_heap HX3.out)).trans HX3.out
  have f3 : w5.frozen? ⟨bx, 3, none⟩ = false := fr_free_of_heap hX5
  have x3 : w5.cell? ⟨bx, 3, none⟩ = some (.slice pa p.1.its.length pc) := fr_cell_of_heap hX5 rfl
  have HX5 := Lib.hid hX5
  have HI5 := Lib.hid hi5
  have HV5 := Lib.hid hv5
  have HB5 := Lib.hid hB5
  clear hX5 hi5 hv5 hB5 hit3
  go_upto_region 12 with fail
  obtain ⟨w7, hw7⟩ : ∃ w7 : World, w7 = w5.setCell ⟨bx, 3, none⟩ (.slice a5 its'.length c5) := ⟨_, rfl⟩
  rw [← hw7]
  have hF57 : Fp (fun j => j = bx) w5 w7 := by rw [hw7]; exact (Fp.refl (fun j => j = bx) w5).setCell (p := ⟨bx, 3, none⟩) (fun _ => rfl) _
  have hX7 : w7.heap[bx]? = some (.cells #[.int .i64 p.1.id, .int .i64 p.1.wt, .int .i64 p.1.df, .slice a5 its'.length c5] 56 (0, 0)) := by rw [hw7]; exact fr_setCell_at HX5.out
  have x0 : w7.cell? ⟨bx, 0, none⟩ = some (.int .i64 p.1.id) := fr_cell_of_heap hX7 rfl
  have x1 : w7.cell? ⟨bx, 1, none⟩ = some (.int .i64 p.1.wt) := fr_cell_of_heap hX7 rfl
  have x2 : w7.cell? ⟨bx, 2, none⟩ = some (.int .i64 p.1.df) := fr_cell_of_heap hX7 rfl
  have x3 : w7.cell? ⟨bx, 3, none⟩ = some (.slice a5 its'.length c5) := fr_cell_of_heap hX7 rfl
  have HF57 := Lib.hid hF57
  clear hw7 hX7 hF57 f3
  go_wp2_with fail
  have hsz3 := HZ3.out
  have hbxe := HBX.out
  have hbw2 := fp_lt_of_heap HR2.out.head
  have hbxb : ¬ b = bx := by omega
  have hlen : l ≠ [] := fun e => by rw [e] at hk; simp at hk
  have hpm := List.mem_of_getElem? HP.out
  have hpne := HFULL.out p.1 (List.mem_map_of_mem hpm)
  have hR7 : RefAt G w7 b q gv _ l := ((HR2.out.below HB3.out).below HB5.out).fp HF57.out hbxb (fun j hj e => by
    have := rows_lt HR2.out.rows.rows hlen j hj
    omega) (fun p' hp' j hj e => by
    have := its_lt (HR2.out.rows.its p' hp') (HFULL.out p'.1 (List.mem_map_of_mem hp')) j hj
    omega)
  have hpl : ∀ j, (Value.slice pa p.1.its.length pc).ownBlock = some j → j < bx := fun j hj => by
    rw [← HPV.out] at hj
    have := its_lt (HR2.out.rows.its p hpm) hpne j hj
    omega
  have hit7 : ItsAt w7 (.slice a5 its'.length c5) its' := HI5.out.fp HF57.out (fun j hj e => by
    rcases HV5.out with h | h
    · rw [h] at hj
      have := hpl j hj
      omega
    · have := (h j hj).1
      omega)
  have hvb : InG G w7 (Value.slice a5 its'.length c5) := by
    intro j hj
    have h75 := HF57.out.size
    rcases HV5.out with h | h
    · rw [h, ← HPV.out] at hj
      have h1 := HR2.out.ig p hpm j hj
      have h2 := HB3.out.size
      have h3 := HB5.out.size
      exact ⟨h1.1, by omega⟩
    · have h1 := h j hj
      exact ⟨(HR2.out.below HB3.out).up j h1.1, by omega⟩
  have hne' : its' ≠ [] := by
    rw [HITS.out]
    split
    · simp
    · exact hpne
  have hfew : its'.length ≤ 1000000 := by
    rw [HITS.out]
    split
    · have := HLEN.out
      simp
      omega
    · have := HLEN.out
      omega
  refine (r15With_any b q gv _ l k { p.1 with its := its' } (.slice a5 its'.length c5) w7 hR7 hk hit7 hvb hfew).mono ?_
  rintro e w8 ⟨rfl, hF8, v8, hR8⟩
  have hwv : withV k ({ p.1 with its := its' }, Value.slice a5 its'.length c5) gv l = (gv, l.set k ({ p.1 with its := its' }, Value.slice a5 its'.length c5)) := if_neg hne'
  rw [hwv] at hR8
  have HF8 := Lib.hid hF8
  have HR8 := Lib.hid hR8
  clear hF8 hR8 x0 x1 x2 x3 hR7 hit7 hvb hfew hwv hpl hpne hpm
  go_wp2_with fail
  go_ret
  have hsz := HB.out.size
  refine ⟨rfl, ((((Fp.of_below (S := fun j => j = b) (box_below2 HB.out)).then_below HB3.out).then_below HB5.out).trans HF57.out (fun j hj e => by simp at hsz; omega)).trans HF8.out (fun _ _ h => h), v8, _, HR8.out, ?_⟩
  rw [set_map]
end Go.Proofs.Ytohkchilogmneaa
