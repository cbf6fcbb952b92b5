/-
  flow.Ring: Rows: the walk.
-/
import Derived.Test.YtohkchilogmneaaFlow7
import Derived.Deep.AppendLies
namespace Go.Proofs.Ytohkchilogmneaa
open Go.RowKit

/-- Rows, each with where its items lie. -/
def encRV (p : FRow × Value) : List Value := [.int .i64 p.1.id, .int .i64 p.1.wt, .int .i64 p.1.df, p.2]
theorem encRV_len (p : FRow × Value) : (encRV p).length = 4 := rfl
def flatRV (l : List (FRow × Value)) : List Value := l.flatMap encRV
theorem flatRV_len (l : List (FRow × Value)) : (flatRV l).length = l.length * 4 := flat_len encRV 4 encRV_len l
theorem flatRV_snoc (l : List (FRow × Value)) (p : FRow × Value) : flatRV (l ++ [p]) = flatRV l ++ encRV p := by simp [flatRV]
theorem frow_info : (Try.prog.info? 48).map (fun i => (i.zero, i.size, i.bytes)) = some (some (.agg #[.int .i64 0, .int .i64 0, .int .i64 0, .slice none 0 0]), 4, 48) := by kernel_rfl
/-- Rows that the call owns. -/
structure RowsIn (T : TypeId) (w : World) (base : Nat) (v : Value) (l : List (FRow × Value)) : Prop where
  own : w.ownsRow base T 4 v l.length (flatRV l)
  its : ∀ p ∈ l, w.ownsRow base 37 2 p.2 p.1.its.length (flatI p.1.its)
def RowsPost (T : TypeId) (rows : List FRow) (w : World) (e : Ending) (w' : World) : Prop := ∃ v l, e = .returned v ∧ RowsIn T w' w.heap.size v l ∧ l.map Prod.fst = rows ∧ Below w.heap.size w w'
theorem RowsIn.below {T : TypeId} {w w' : World} {base : Nat} {v : Value} {l : List (FRow × Value)} (h : RowsIn T w base v l) (hb : Below w.heap.size w w') : RowsIn T w' base v l := ⟨own_below h.own hb, fun p hp => own_below (h.its p hp) hb⟩
def RRel (rows : List FRow) (w : World) (g : Nat) (i ov : Value) (wr : World) : Prop :=
  ∃ (k : Nat) (l : List (FRow × Value)), g = rows.length - k ∧ i = .int .i64 k ∧ k ≤ rows.length ∧ l.map Prod.fst = rows.take k ∧ RowsIn 48 wr w.heap.size ov l ∧ Below w.heap.size w wr
section
variable {pre : List Int} {ρ : Roles} {f sp : Nat} {q : Int} {gv : Bool} {v : Value} {ns : List Nd} {qb : Int → Nat} {its : Int → List It} {rows : List FRow}
set_option maxRecDepth 100000 in
set_option maxHeartbeats 2000000 in
/-- THE WALK: Rows. -/
theorem flowRows_any (w : World) (hR : RingAt pre ρ w f q gv rows) : Calls Try.prog 19 #[.pointer (some ⟨f, 0, none⟩)] w (RowsPost 48 rows w) := by
  obtain ⟨sp, v, ns, qb, its, hr, rfl⟩ := hR
  have HR := Lib.hid hr
  have c0 := hr.c0
  obtain ⟨a, cap, hv, -⟩ := hr.spin.form
  have c1 : w.cell? ⟨sp, 1, none⟩ = some (.slice a ns.length cap) := by rw [← hv]; exact hr.spin.c1
  have HV := Lib.hid hv
  have HF := Lib.hid hr.spin.few
  clear hr hv
  go_enter Try.func19, Try.ntmps19
  go_wp2_with fail
  refine (flowOk_any (sp := sp) _ HR.out.c0).mono ?_
  rintro e w1 ⟨rfl, rfl⟩
  go_wp2_with fail
  go_loopg [19, 3] ns.length (fun g i ov wr => RRel (ns.map (rowOf its)) w g i ov wr)
  case atStart => exact ⟨0, [], by simp, rfl, Nat.zero_le _, rfl, ⟨own_nil _ _ _ _, fun p hp => by cases hp⟩, Below.refl _ _⟩
  case round =>
    obtain ⟨k, l, hg, rfl, hk, hm, hown, hb⟩ := hrel
    rw [List.length_map] at hk hg
    have HG := Lib.hid hg
    have HM := Lib.hid hm
    have HO := Lib.hid hown
    have HB := Lib.hid hb
    clear hg hm hown hb c0 c1
    by_cases hlt : k < ns.length
    · obtain ⟨n, hn⟩ : ∃ n, ns[k]? = some n := ⟨_, List.getElem?_eq_getElem hlt⟩
      obtain ⟨g, off, cap', hv, hc⟩ := HR.out.spin.at hn
      obtain ⟨rfl, rfl⟩ : a = some ⟨g, off, none⟩ ∧ cap = cap' := by rw [HV.out] at hv; cases hv; exact ⟨rfl, rfl⟩
      have d0 := cell_below HB.out hc
      have hnc := HB.out.block _ (fp_lt_of_heap (HR.out.spin.node k n hn).2) |>.trans (HR.out.spin.node k n hn).2
      have HNC := Lib.hid hnc
      have n0 : wr.cell? ⟨n.blk, 0, none⟩ = some (.int .i64 n.id) := fr_cell_of_heap hnc rfl
      have HN := Lib.hid hn
      have hfew := HF.out
      clear hn hv hc hnc
      go_wp2_with fail
      refine (flowQueue_some n.id k n _ (HR.out.below HB.out) HN.out rfl).mono ?_
      rintro e w1 ⟨rfl, hb1⟩
      have HB1 := Lib.hid (HB.out.trans (hb1.mono HB.out.size))
      have HO1 := Lib.hid (HO.out.below hb1)
      have HNC1 := Lib.hid ((hb1.block _ (fp_lt_of_heap HNC.out)).trans HNC.out)
      clear hb1 n0 d0
      go_upto_region 8 with fail
      have HQ1 := Lib.hid ((HR.out.que n (List.mem_of_getElem? HN.out)).below HB1.out)
      have n0 : w1.cell? ⟨n.blk, 0, none⟩ = some (.int .i64 n.id) := fr_cell_of_heap HNC1.out rfl
      have n1 : w1.cell? ⟨n.blk, 1, none⟩ = some (.int .i64 n.wt) := fr_cell_of_heap HNC1.out rfl
      have n2 : w1.cell? ⟨n.blk, 2, none⟩ = some (.int .i64 n.df) := fr_cell_of_heap HNC1.out rfl
      obtain ⟨i0, hi0, hz0, hz1, hz2⟩ := info_parts frow_info
      have hll : l.length = k := by
        have h := congrArg List.length HM.out
        rw [List.length_map, List.length_take, List.length_map] at h
        omega
      have hbd : Below w1.heap.size w1 w1.drew := ⟨rfl, rfl, rfl, Nat.le_refl _, fun _ _ => rfl⟩
      have hwz := HB1.out.size
      have hfar : n.blk < w.heap.size := fp_lt_of_heap (HR.out.spin.node k n HN.out).2
      go_region_held3 (fun w' => w'.cell? ⟨n.blk, 0, none⟩ = some (.int .i64 n.id) ∧ w'.cell? ⟨n.blk, 1, none⟩ = some (.int .i64 n.wt) ∧ w'.cell? ⟨n.blk, 2, none⟩ = some (.int .i64 n.df))
        (first
          | go_keep
          | exact ⟨cell_below (w := w1.drew) hb5 n0, cell_below (w := w1.drew) hb5 n1, cell_below (w := w1.drew) hb5 n2⟩
          | exact ⟨(hb9.cell (p := ⟨n.blk, 0, none⟩) hfar).trans n0, (hb9.cell (p := ⟨n.blk, 1, none⟩) hfar).trans n1, (hb9.cell (p := ⟨n.blk, 2, none⟩) hfar).trans n2⟩)
        (first
          | (go_at_call 57; refine (fifoAll_any (pre := pre ++ [5, n.id]) (ρ := ρ) (l := its n.id) _ (HQ1.out.below hbd)).mono ?_; rintro e w5 ⟨vi, rfl, hown5, hb5⟩; obtain ⟨ai, ci, hvi, -⟩ := own_cells hown5; subst hvi; (have hs5 : w1.heap.size ≤ w5.heap.size := hb5.size))
          | (refine step_append_lies _ (by rfl) _ _ _ (by rfl) w.heap.size 48 i0 _ 4 48 Try.underlying44 hi0 hz0 hz1 hz2 rfl (by omega) u3 l.length (flatRV l) (by rfl) ((own_below HO1.out.own (hbd.trans hb5)).alloc _)
                    ⟨w5.heap.size, 0, none⟩ 1 1 (encRV (rowOf its n, .slice ai (its n.id).length ci)) (by rfl) (by rfl) (World.news_of_block (cs := #[.int .i64 n.id, .int .i64 n.wt, .int .i64 n.df, .slice ai (its n.id).length ci]) (t := 48) (fr := (0, 0)) (heap_alloc_new w5 _)) (by simp [Value.oneCell', encRV]) (by omega) (by unfold maxLen; omega) (by omega) (by simp; omega) (w5.heap.size + 1) (by simp) ?_; intro gg gcap w9 hown9 hgrow hat hlt9; (have hb9 : Below w.heap.size w1 w9 := (((hbd.trans hb5).mono hwz).alloc (by omega) _).grown hgrow (by simp; omega) (fun j hj => own_block HO1.out.own j hj))))
      have hr9 := (show RowsIn 48 w9 w.heap.size (.slice (some ⟨gg, 0, none⟩) (l.length + 1) gcap) (l ++ [(rowOf its n, .slice ai (its n.id).length ci)]) from ⟨by rw [List.length_append, flatRV_snoc]; exact hown9, fun p hp => by
        have hkp : ∀ {vv : Value} {m : Nat} {xs : List Value}, w5.ownsRow w.heap.size 37 2 vv m xs → w9.ownsRow w.heap.size 37 2 vv m xs := fun h => World.ownsRow.kept (h.alloc _) hgrow (own_apart h (own_below HO1.out.own (hbd.trans hb5)) (by decide))
        rcases List.mem_append.1 hp with hp | hp
        · exact hkp (own_below (HO1.out.its p hp) (hbd.trans hb5))
        · rw [List.mem_singleton] at hp
          subst hp
          exact hkp (own_base hown5 hwz)⟩)
      rw [hll] at hr9
      have HR9 := Lib.hid hr9
      have HB9 := Lib.hid (HB1.out.trans hb9)
      clear hr9
      clear hown9 hgrow hat hlt9 hown5 hb5 hb9 hbd n0 n1 n2 hi0 hz0 hz1 hz2 hs5 hwz hfar hfew
      go_wp2_with fail
      go_roundg (ns.length - (k + 1))
      case rel =>
        have hf := HF.out
        refine ⟨k + 1, _, by rw [List.length_map], by rw [show wrap64 ((k : Int) + 1) = ((k + 1 : Nat) : Int) by unfold wrap64; omega], by rw [List.length_map]; omega, ?_, HR9.out, HB9.out⟩
        rw [List.map_append, HM.out, List.take_succ_eq_append_getElem (by rw [List.length_map]; exact hlt)]
        congr 1
        have h := HN.out
        rw [List.getElem?_eq_getElem hlt] at h
        simp at h
        simp [h]
      case measure => have := HG.out; omega
    · have hk2 : ns.length = k := by omega
      have HK := Lib.hid hk2
      clear hk2
      go_wp2_with fail
      go_ret
      refine ⟨_, l, rfl, HO.out, ?_, HB.out⟩
      rw [HM.out, List.take_of_length_le (by rw [List.length_map]; have := HK.out; omega)]
end
end Go.Proofs.Ytohkchilogmneaa
