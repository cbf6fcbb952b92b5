/-
  ref15 (flows): Push of a row that is new: the walk; Push in one law.
-/
import Derived.Test.YtohkchilogmneaaRef15g
namespace Go.Proofs.Ytohkchilogmneaa
open Go.RowKit
variable {G : Nat → Prop}
theorem rows_src {w : World} {v : Value} {l : List (FRow × Value)} (h : RowsAt w v l) : SrcAt 4 w v l.length (flatRV l) := by
  obtain ⟨⟨a, cap, rfl, _, hc⟩, _⟩ := h
  exact ⟨a, cap, rfl, flatRV_len l, hc⟩
theorem new_close {w4 wa : World} {b : Nat} {q : Int} {gv : Bool} {v2 v3 : Value} {p : FRow × Value} {l : List (FRow × Value)} (hR : RefAt G w4 b q gv v2 l) (hi : ItsAt w4 p.2 p.1.its) (hg : InG G w4 p.2) (hlen : l.length < 1000000) (hpl : p.1.its.length ≤ 1000000) (hL : Laid2 56 4 w4 v3 (l.length + 1) (flatRV l ++ encRV p) wa) :
    RefAt G (wa.setCell ⟨b, 1, none⟩ v3) b q gv v3 (l ++ [p]) ∧ Fp (fun j => j = b) w4 (wa.setCell ⟨b, 1, none⟩ v3) := by
  have hbw := fp_lt_of_heap hR.head
  have hF : Fp (fun j => j = b) wa (wa.setCell ⟨b, 1, none⟩ v3) := (Fp.refl (fun j => j = b) wa).setCell (p := ⟨b, 1, none⟩) (fun _ => rfl) _
  have hsz := Nat.le_trans hL.below.size hF.size
  have hvg : InG G (wa.setCell ⟨b, 1, none⟩ v3) v3 := (own_inG hL.own (fun k hk => hR.up k hk)).grow hF.size
  have hv3 : v3.ownBlock ≠ some b := hvg.not hR.nb
  have hm : ∀ {P : FRow × Value → Prop}, (∀ y ∈ l, P y) → P p → ∀ y ∈ l ++ [p], P y := fun h1 h2 y hy => by
    rcases List.mem_append.1 hy with hy | hy
    · exact h1 y hy
    · rw [List.mem_singleton] at hy
      subst hy
      exact h2
  have hig : ∀ y ∈ l ++ [p], InG G w4 y.2 := hm hR.ig hg
  refine ⟨⟨fr_setCell_at ((hL.below.block b hbw).trans hR.head), ?_, fun _ => hvg, fun y hy => (hig y hy).grow hsz, hR.nb, fun k hk => hR.up k (Nat.le_trans hsz hk), by rw [List.length_append, List.length_singleton]; omega, hm hR.fews hpl⟩, (Fp.of_below hL.below).trans hF (fun _ _ h => h)⟩
  refine (rows_own (l := l ++ [p]) (by rw [List.length_append, flatRV_snoc]; exact hL.own) (fun y hy => ItsAt.below (hm hR.rows.its hi y hy) hL.below)).fp hF (fun j hj e => hv3 (e ▸ hj)) (fun y hy j hj e => (hig y hy).not hR.nb (e ▸ hj))
set_option maxRecDepth 100000 in
set_option maxHeartbeats 4000000 in
theorem r15Push_new (id wt : Int) (x : It) (b : Nat) (q : Int) (gv : Bool) (v : Value) (l : List (FRow × Value)) (w : World) (h : RefAt G w b q gv v l) (hn : placeF id (l.map Prod.fst) = -1) (hgood : ¬ argBad id wt) (hlen : l.length < 1000000) : Calls Try.prog 58 #[.pointer (some ⟨b, 0, none⟩), .int .i64 id, .int .i64 wt, .agg #[.int .i64 x.id, .int .i64 x.cost]] w fun e w' => e = .returned (.int .i64 (itE [] x)) ∧ Fp (fun j => j = b) w w' ∧ ∃ v' l', RefAt G w' b q gv v' l' ∧ l'.map Prod.fst = if itE [] x = 0 then l.map Prod.fst ++ [⟨id, wt, 0, [x]⟩] else l.map Prod.fst := by
  have HR := Lib.hid h
  have HN := Lib.hid hn
  have b0 : w.cell? ⟨b, 0, none⟩ = some (.int .i64 q) := fr_cell_of_heap h.head rfl
  have b1 : w.cell? ⟨b, 1, none⟩ = some v := fr_cell_of_heap h.head rfl
  have b2 : w.cell? ⟨b, 2, none⟩ = some (.bool gv) := fr_cell_of_heap h.head rfl
  have hbw := fp_lt_of_heap h.head
  have h0 : ¬ id < 0 := fun e => hgood (.inl e)
  have h1 : ¬ wt < 1 := fun e => hgood (.inr (.inl e))
  have h2 : ¬ wt > 16 := fun e => hgood (.inr (.inr e))
  have HLEN := Lib.hid hlen
  obtain ⟨rows', hrows⟩ : ∃ rows' : List FRow, rows' = (if itE [] x = 0 then l.map Prod.fst ++ [⟨id, wt, 0, [x]⟩] else l.map Prod.fst) := ⟨_, rfl⟩
  rw [← hrows]
  have HROWS := Lib.hid hrows
  clear h hn hgood hlen hrows
  go_enter Try.func58, Try.ntmps58
  go_wp2_with fail
  refine (r15Find_any id q gv _ l _ (HR.out.below box_below).rows HR.out.few).mono ?_
  rintro e w2 ⟨rfl, hb⟩
  rw [HN.out]
  have HB := Lib.hid hb
  have HR2 := Lib.hid ((HR.out.below box_below).below hb)
  have hxb := (hb.block w.heap.size (by simp)).trans fr_alloc_at
  have z0 : w2.cell? ⟨w.heap.size, 0, none⟩ = some (.int .i64 x.id) := fr_cell_of_heap hxb rfl
  have z1 : w2.cell? ⟨w.heap.size, 1, none⟩ = some (.int .i64 x.cost) := fr_cell_of_heap hxb rfl
  clear hb b0 b1 b2 hxb
  go_wp2_with fail
  refine (r14Push_any _ [] x w2 (its_nil w2) (by decide)).mono ?_
  rintro e w5 ⟨v5, rfl, hi5, hv5, hB5⟩
  have HB5 := Lib.hid hB5
  have HR5 := Lib.hid (HR2.out.below hB5)
  by_cases he : itE [] x = 0
  · rw [if_pos he] at hi5
    have HROWS := Lib.hid (HROWS.out.trans (if_pos he))
    have HE := Lib.hid he
    rw [he]
    have HG5 := Lib.hid (show InG G w5 v5 from fun j hj => by
      rcases hv5 with h | h
      · rw [h] at hj
        cases hj
      · exact ⟨HR2.out.up j (h j hj).1, (h j hj).2⟩)
    have HI5 := Lib.hid (show ItsAt w5 v5 [x] from hi5)
    clear hi5 hv5 hB5 z0 z1 he
    obtain ⟨a5, c5, rfl⟩ : ∃ a5 c5, v5 = .slice a5 1 c5 := its_form HI5.out
    obtain ⟨i0, hi0, hz0, hz1, hz2⟩ := info_parts rrow_info
    have HS1 := Lib.hid (rows_src ((HR5.out.below (box_below (o := .cells #[] 56))).rows))
    have HON := Lib.hid (flatRV_one (w := w5) HR5.out.rows.its)
    have hlen := HLEN.out
    have hl1 : l.length ≤ maxLen := by unfold maxLen; omega
    have hl2 : l.length * 48 ≤ 140737488355328 := by omega
    have hl3 : l.length < 140737488355328 := by omega
    have hl4 : (l.length + 1) * 48 ≤ 140737488355328 := by omega
    have hbw5 := fp_lt_of_heap HR5.out.head
    have b1 : w5.cell? ⟨b, 1, none⟩ = some v := fr_cell_of_heap HR5.out.head rfl
    clear hlen
    go_upto_region 7 with fail
    go_wp2_with (first
      | (at_builtin; refine wpList_copy_from rfl _ _ 51 rfl 56 i0 _ 4 48 Try.underlying51 hi0 hz0 hz1 hz2 rfl (by decide) w5.heap.size (by simp [Act.eval]) (heap_alloc_new w5 _) v l.length (flatRV l) rfl HS1.out HON.out hl1 hl2 ?_; intro v6 w6 ho6 hg6 hat6; (have hb6 : Below w5.heap.size w5 w6 := ⟨hg6.os, hg6.tape, hg6.output, Nat.le_trans (by simp) hg6.size, fun j hj => (hg6.block j (by simp; omega) (fun e => by simp at e; omega)).trans (Below.heap_alloc _ _ _ hj)⟩); (have HO6 := Lib.hid ho6); (have HB6 := Lib.hid hb6); (have hz6 : w5.heap.size ≤ w6.heap.size := hb6.size); clear ho6 hg6 hat6 hb6)
      | (at_builtin; refine wpList_append_at (us := #[.int .i64 id, .int .i64 wt, .int .i64 0, .slice a5 1 c5]) rfl _ _ 51 rfl w5.heap.size _ 4 48 Try.underlying51 rrow_info rfl (by decide) v6 l.length (flatRV l) rfl HO6.out rfl rfl ?c0 ?c1 ?c2 ?c3 ?_; (case c0 => simp [Value.oneCell']); (case c1 => exact hz6); (case c2 => exact hl3); (case c3 => exact hl4); intro gg gcap w8 ho8 hg8 hat8; (have HB8 := Lib.hid (HB6.out.trans ⟨hg8.os, hg8.tape, hg8.output, hg8.size, fun j hj => hg8.block j (Nat.lt_of_lt_of_le hj hz6) (fun e => by have := own_block HO6.out j e.symm; omega)⟩ : Below w5.heap.size w5 w8)); (have HO8 := Lib.hid ho8); (have hh8 := (HB8.out.block b hbw5).trans HR5.out.head); (have k1 : w8.cell? ⟨b, 1, none⟩ = some v := fr_cell_of_heap hh8 rfl); (have k2 : w8.frozen? ⟨b, 1, none⟩ = false := fr_free_of_heap hh8); clear ho8 hg8 hat8 hh8))
    go_ret
    have hcl := new_close (p := (⟨id, wt, 0, [x]⟩, .slice a5 1 c5)) HR5.out HI5.out HG5.out HLEN.out (by simp) ⟨HO8.out, HB8.out⟩
    refine ⟨ret_int HE.out.symm, ((Fp.of_below (S := fun j => j = b) (box_below2 HB.out)).then_below HB5.out).trans hcl.2 (fun _ _ h => h), _, _, hcl.1, ?_⟩
    rw [List.map_append, HROWS.out]
    rfl
  · have hne : (itE [] x == 0) = false := beq_eq_false_iff_ne.2 he
    have HE := Lib.hid he
    clear hi5 hv5 hB5 z0 z1 he
    go_wp2_with fail
    go_ret
    exact ⟨rfl, (Fp.of_below (S := fun j => j = b) (box_below2 HB.out)).then_below HB5.out, _, l, HR5.out, (HROWS.out.trans (if_neg HE.out)).symm⟩
end Go.Proofs.Ytohkchilogmneaa
