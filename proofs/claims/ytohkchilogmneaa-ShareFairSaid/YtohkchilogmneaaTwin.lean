/-
  law15: a ring and the document's, side by side; rows, same: the walks.
-/
import Derived.Test.YtohkchilogmneaaRef15j
import Derived.Test.YtohkchilogmneaaFPicks
namespace Go.Proofs.Ytohkchilogmneaa
open Go.RowKit Go.Sort

/-- Blocks that are no ring's, and not the document's head. -/
def Free (ρ : Roles) (b k : Nat) : Prop := k ≠ b ∧ ρ k = []
/-- The document's ring goes on where others turn. -/
theorem RefAt.move {G G' S : Nat → Prop} {w w' : World} {b : Nat} {q : Int} {gv : Bool} {v : Value} {l : List (FRow × Value)} (h : RefAt G w b q gv v l) (hF : Fp S w w') (h0 : ¬ S b) (hG : ∀ k, k < w.heap.size → G k → G' k ∧ ¬ S k) (hb : ¬ G' b) (hup : ∀ k, w'.heap.size ≤ k → G' k) : RefAt G' w' b q gv v l :=
  ⟨hF.heap h.head h0, h.rows.fp' hF (fun hl k hk => (hG k (h.vg hl k hk).2 (h.vg hl k hk).1).2) (fun p hp k hk => (hG k (h.ig p hp k hk).2 (h.ig p hp k hk).1).2),
    fun hl k hk => ⟨(hG k (h.vg hl k hk).2 (h.vg hl k hk).1).1, Nat.lt_of_lt_of_le (h.vg hl k hk).2 hF.size⟩, fun p hp k hk => ⟨(hG k (h.ig p hp k hk).2 (h.ig p hp k hk).1).1, Nat.lt_of_lt_of_le (h.ig p hp k hk).2 hF.size⟩, hb, hup, h.few, h.fews⟩
/-- A ring and a document's ring, each with its rows. -/
structure Both (q : Int) (w : World) (f b k : Nat) (gv : Bool) (rows : List FRow) (ρ : Roles) (wr : World) (gd : Bool) (v : Value) (l : List (FRow × Value)) : Prop where
  st : RState q w f k gv rows ρ wr
  doc : RefAt (Free ρ b) wr b q gd v l
  nb : ρ b = []
  wb : w.heap.size ≤ b
section
variable {q : Int} {w wr w' : World} {f b k k' : Nat} {gv gd gv' gd' : Bool} {rows rows' : List FRow} {ρ ρ' : Roles} {v v' : Value} {l l' : List (FRow × Value)}
theorem Both.on (h : Both q w f b k gv rows ρ wr gd v l) (hb : Below wr.heap.size wr w') : Both q w f b k gv rows ρ w' gd v l := ⟨h.st.on hb, h.doc.below hb, h.nb, h.wb⟩
theorem Both.more (h : Both q w f b k gv rows ρ wr gd v l) (hk : k ≤ k') : Both q w f b k' gv rows ρ wr gd v l := ⟨⟨h.st.ring, Nat.le_trans h.st.few hk, h.st.below, h.st.news, h.st.old⟩, h.doc, h.nb, h.wb⟩
/-- The ring's turn. -/
theorem Both.ring (h : Both q w f b k gv rows ρ wr gd v l) (hl : Later ρ ρ' wr) (hn : NewRoles ρ' [0] wr.heap.size) (hR : RingAt [0] ρ' w' f q gv' rows') (hF : Fp (Part ρ [0]) wr w') (hk : totR rows' ≤ k') : Both q w f b k' gv' rows' (fence ρ' w') w' gd v l := by
  have hS : ∀ j, ρ j = [] → ¬ Part ρ [0] j := fun j hj ⟨s, hs⟩ => by
    rw [hj] at hs
    simp at hs
  have hbw := fp_lt_of_heap h.doc.head
  have hfl := fence_later ρ' w'
  have hlt : ∀ j, j < wr.heap.size → ρ j = [] → fence ρ' w' j = [] := fun j hj h0 => by
    rw [hfl j (Nat.lt_of_lt_of_le hj hF.size), hl j hj, h0]
  refine ⟨(h.st.turn hl hn hR hF hk).fence, h.doc.move hF (hS b h.nb) (fun j hj hG => ⟨⟨hG.1, hlt j hj hG.2⟩, hS j hG.2⟩) (fun hb => hb.1 rfl) (fun j hj => ⟨fun e => ?_, by simp [fence, Nat.not_lt.2 hj]⟩), hlt b hbw h.nb, h.wb⟩
  have := hF.size
  omega
/-- The document's turn. -/
theorem Both.docs (h : Both q w f b k gv rows ρ wr gd v l) (hF : Fp (fun j => j = b) wr w') (hR : RefAt (Free ρ b) w' b q gd' v' l') : Both q w f b k gv rows ρ w' gd' v' l' := by
  have hbw := fp_lt_of_heap h.doc.head
  refine ⟨⟨h.st.ring.frame hF (fun j _ ⟨s, hs⟩ e => ?_), h.st.few, ?_, h.st.news, h.st.old⟩, hR, h.nb, h.wb⟩
  · rw [e, h.nb] at hs
    simp at hs
  · exact h.st.below.trans (hF.below h.st.below.size (fun j hj e => by have := h.wb; omega))
end
theorem like_len {l m : List (FRow × Value)} (h : l.map Prod.fst = m.map Prod.fst) : l.length = m.length := by
  have := congrArg List.length h
  simpa using this
theorem like_its {l m : List (FRow × Value)} (h : l.map Prod.fst = m.map Prod.fst) {n : Nat} (hm : ∀ p ∈ m, p.1.its.length ≤ n) : ∀ p ∈ l, p.1.its.length ≤ n := fun p hp => by
  have h1 : p.1 ∈ m.map Prod.fst := by
    rw [← h]
    exact List.mem_map_of_mem hp
  obtain ⟨p', hp', e⟩ := List.mem_map.1 h1
  rw [← e]
  exact hm p' hp'
/-- Side by side, and alike. -/
def Twin (q : Int) (w : World) (f b k : Nat) (wr : World) : Prop := ∃ gv rows ρ v l, Both q w f b k gv rows ρ wr gv v l ∧ l.map Prod.fst = rows
def TwinPost (q : Int) (w : World) (f b k : Nat) (e : Ending) (w' : World) : Prop := e = .returned (.bool true) ∧ Twin q w f b k w'
theorem RowsIn.rows {T : TypeId} {w : World} {base : Nat} {v : Value} {l : List (FRow × Value)} (h : RowsIn T w base v l) : RowsAt w v l := rows_own h.own (fun p hp => ItsAt.own (h.its p hp))
section
variable {pre : List Int} {ρ : Roles} {f : Nat} {q : Int} {gv : Bool} {rows : List FRow}
theorem rows_of_own {T : TypeId} {w : World} {base : Nat} {v : Value} {l l0 : List (FRow × Value)} (h : w.ownsRow base T 4 v l.length (flatRV l)) (h0 : ∀ p ∈ l0, ItsAt w p.2 p.1.its) (hs : ∀ p ∈ l, p ∈ l0) : RowsAt w v l := rows_own h (fun p hp => h0 p (hs p hp))
set_option maxRecDepth 100000 in
set_option maxHeartbeats 4000000 in
/-- THE WALK: rows. -/
theorem rows15_any (w : World) (hR : RingAt pre ρ w f q gv rows) (hf : totR rows < 1000000) : Calls Try.prog 63 #[.pointer (some ⟨f, 0, none⟩)] w fun e w' => ∃ v l, e = .returned v ∧ RowsAt w' v l ∧ l.map Prod.fst = rows ∧ Below w.heap.size w w' := by
  have hlen := Nat.lt_of_le_of_lt (tot_len hR.full) hf
  have HR := Lib.hid hR
  have HF := Lib.hid hlen
  clear hR hlen hf
  go_enter Try.func63, Try.ntmps63
  go_wp2_with fail
  refine (flowRows_any w HR.out).mono ?_
  rintro e w1 ⟨v1, l, rfl, hr1, hm, hb1⟩
  have HR1 := Lib.hid hr1.rows
  have HM := Lib.hid hm
  have HB1 := Lib.hid hb1
  have HL := Lib.hid (show l.length < 1000000 by have h := congrArg List.length hm; rw [List.length_map] at h; rw [h]; exact HF.out)
  obtain ⟨a, cap, rfl, -⟩ := hr1.rows.form
  clear hr1 hm hb1
  go_wp2_with fail
  go_loopg [4, 5] l.length (fun g ov i wr => ∃ k : Nat, g = l.length - k ∧ i = .int .i64 k ∧ k ≤ l.length ∧ wr.ownsRow w1.heap.size 56 4 ov (l.take k).length (flatRV (l.take k)) ∧ Below w1.heap.size w1 wr)
  case atStart => exact ⟨0, rfl, rfl, Nat.zero_le _, own_empty (Nat.le_refl _), box_below⟩
  case round =>
    obtain ⟨k, hg, rfl, hk, ho, hb⟩ := hrel
    have HG := Lib.hid hg
    have HO := Lib.hid ho
    have HB := Lib.hid hb
    clear hg ho hb
    by_cases hlt : k < l.length
    · obtain ⟨⟨x, vx⟩, hx⟩ : ∃ p, l[k]? = some p := ⟨_, List.getElem?_eq_getElem hlt⟩
      have HXX := Lib.hid hx
      obtain ⟨ax, cx, rfl⟩ : ∃ ax cx, vx = .slice ax x.its.length cx := its_form (HR1.out.its _ (List.mem_of_getElem? hx))
      obtain ⟨g, off, cap', hv, _, c0, c1, c2, c3⟩ := (HR1.out.below HB.out).at hx
      cases hv
      simp only at c0 c1 c2 c3
      have HT := Lib.hid (show l.take (k + 1) = l.take k ++ [(x, .slice ax x.its.length cx)] by rw [List.take_succ_eq_append_getElem hlt, (List.getElem?_eq_some_iff.1 hx).2])
      have hkl : (k : Int) < (l.length : Int) := by omega
      have htl : (l.take k).length = k := by rw [List.length_take]; omega
      have hf := HL.out
      obtain ⟨D, hD⟩ : ∃ D, D = l.take k := ⟨_, rfl⟩
      rw [← hD] at HO HT htl
      rw [htl] at HO
      have hgw : g < w1.heap.size := by
        obtain ⟨g2, off2, cap2, hv2, _, q0, _⟩ := HR1.out.at hx
        cases hv2
        exact World.block_lt_of_cell? w1 _ q0
      obtain ⟨i0, hi0, hz0, hz1, hz2⟩ := info_parts rrow_info
      have hw1 := HB.out.size
      clear hx hD
      go_upto_region 6 with fail
      go_region_held3 (fun w' => w'.cell? ⟨g, off + k * 4, none⟩ = some (.int .i64 x.id) ∧ w'.cell? ⟨g, off + k * 4 + 1, none⟩ = some (.int .i64 x.wt) ∧ w'.cell? ⟨g, off + k * 4 + 2, none⟩ = some (.int .i64 x.df) ∧ w'.cell? ⟨g, off + k * 4 + 3, none⟩ = some (.slice ax x.its.length cx))
        (first
          | go_keep
          | exact ⟨(hb9.cell (p := ⟨g, off + k * 4, none⟩) hgw).trans ((HB.out.cell (p := ⟨g, off + k * 4, none⟩) hgw).symm.trans c0), (hb9.cell (p := ⟨g, off + k * 4 + 1, none⟩) hgw).trans ((HB.out.cell (p := ⟨g, off + k * 4 + 1, none⟩) hgw).symm.trans c1), (hb9.cell (p := ⟨g, off + k * 4 + 2, none⟩) hgw).trans ((HB.out.cell (p := ⟨g, off + k * 4 + 2, none⟩) hgw).symm.trans c2), (hb9.cell (p := ⟨g, off + k * 4 + 3, none⟩) hgw).trans ((HB.out.cell (p := ⟨g, off + k * 4 + 3, none⟩) hgw).symm.trans c3)⟩)
        (first
          | (refine step_append_lies _ (by rfl) _ _ _ (by rfl) w1.heap.size 56 i0 _ 4 48 Try.underlying51 hi0 hz0 hz1 hz2 rfl (by omega) u4 k (flatRV D) (by rfl) ((own_below HO.out ⟨rfl, rfl, rfl, Nat.le_refl _, fun _ _ => rfl⟩).alloc _)
                    ⟨wr.heap.size, 0, none⟩ 1 1 (encRV (x, .slice ax x.its.length cx)) (by rfl) (by rfl) (World.news_of_block (cs := #[.int .i64 x.id, .int .i64 x.wt, .int .i64 x.df, .slice ax x.its.length cx]) (t := 56) (fr := (0, 0)) (heap_alloc_new _ _)) (by simp [Value.oneCell', encRV]) (by omega) (by unfold maxLen; omega) (by omega) (by simp; omega) (wr.heap.size + 1) (by simp) ?_; intro gg gcap w9 hown9 hgrow hat hlt9; (have hb9 : Below w1.heap.size w1 w9 := (HB.out.alloc hw1 _).trans ⟨hgrow.os, hgrow.tape, hgrow.output, Nat.le_trans (by simp) hgrow.size, fun j hj => hgrow.block j (by simp; omega) (fun e => by have := own_block HO.out j e.symm; omega)⟩)))
      have HO9 := Lib.hid hown9
      have HB9 := Lib.hid hb9
      clear hown9 hgrow hat hlt9 hb9 hi0 hz0 hz1 hz2 hgw c0 c1 c2 c3
      go_wp2_with fail
      go_roundg (l.length - (k + 1))
      case rel => exact ⟨k + 1, rfl, by go_num, by omega, by rw [HT.out, List.length_append, flatRV_snoc, htl]; exact HO9.out, HB9.out⟩
      case measure => have := HG.out; omega
    · have HK := Lib.hid (show l.take k = l from List.take_of_length_le (by omega))
      go_wp2_with fail
      go_ret
      have h := HO.out
      rw [HK.out] at h
      exact ⟨_, l, rfl, rows_own h (fun p hp => (HR1.out.its p hp).below HB.out), HM.out, HB1.out.trans (HB.out.mono HB1.out.size)⟩
set_option maxRecDepth 100000 in
set_option maxHeartbeats 4000000 in
/-- THE WALK: same. -/
theorem same15_any (v : Value) (l : List (FRow × Value)) (w : World) (hR : RingAt pre ρ w f q gv rows) (hf : totR rows < 1000000) (hD : RowsAt w v l) (hm : l.map Prod.fst = rows) : Calls Try.prog 23 #[.pointer (some ⟨f, 0, none⟩), .agg #[.int .i64 q, v, .bool gv]] w (TrueBelow w) := by
  have HF := Lib.hid hf
  have HM := Lib.hid hm
  have HL := Lib.hid (show l.length ≤ 1000000 by have h := congrArg List.length hm; rw [List.length_map] at h; rw [h]; have := tot_len hR.full; omega)
  have HLS := Lib.hid (show ∀ p ∈ l, p.1.its.length ≤ 1000000 from fun p hp => by have := tot_mem (rows := rows) (r := p.1) (by rw [← hm]; exact List.mem_map_of_mem hp); omega)
  have HR := Lib.hid (hR.below (box_below (o := .cells #[.int .i64 q, v, .bool gv] 53)))
  have HD := Lib.hid (hD.below (box_below (o := .cells #[.int .i64 q, v, .bool gv] 53)))
  obtain ⟨a, cap, rfl, -⟩ := hD.form
  clear hR hf hD hm
  go_enter Try.func23, Try.ntmps23
  go_upto_region 1 with fail
  obtain ⟨w1, hw1⟩ : ∃ w1 : World, w1 = w.alloc (.cells #[.int .i64 q, .slice a l.length cap, .bool gv] 53) := ⟨_, rfl⟩
  obtain ⟨bx, hbx⟩ : ∃ bx : Nat, bx = w.heap.size := ⟨_, rfl⟩
  rw [← hw1] at HR HD
  rw [← hw1, ← hbx]
  have hx1 : w1.heap[bx]? = some (.cells #[.int .i64 q, .slice a l.length cap, .bool gv] 53 (0, 0)) := by rw [hw1, hbx]; exact fr_alloc_at
  have HB1 := Lib.hid (show Below w.heap.size w w1 by rw [hw1]; exact box_below)
  have b1 : w1.cell? ⟨bx, 1, none⟩ = some (.slice a l.length cap) := fr_cell_of_heap hx1 rfl
  have b2 : w1.cell? ⟨bx, 2, none⟩ = some (.bool gv) := fr_cell_of_heap hx1 rfl
  have h0 : Below w1.heap.size w1 w1.drew := ⟨rfl, rfl, rfl, Nat.le_refl _, fun _ _ => rfl⟩
  clear hw1 hbx hx1
  go_region_held3 (fun w' => w'.cell? ⟨bx, 1, none⟩ = some (.slice a l.length cap) ∧ w'.cell? ⟨bx, 2, none⟩ = some (.bool gv))
    (first | go_keep | exact ⟨cell_below hb7 b1, cell_below hb7 b2⟩ | exact ⟨cell_below hb8 b1, cell_below hb8 b2⟩ | exact ⟨cell_below hb9 b1, cell_below hb9 b2⟩)
    (first
      | (go_at_call 63; refine (rows15_any _ (HR.out.below h0) HF.out).mono ?_; rintro e w7 ⟨v7, l7, rfl, h7, hm7, hb7'⟩; (have hb7 := below_chain (w := w1) h0 hb7'); (have HR7 := Lib.hid h7); (have HM7 := Lib.hid hm7); clear hb7' h7 hm7)
      | (go_at_call 62; refine (r15Same_eq v7 _ l7 l _ HR7.out (HD.out.below hb7) (HM7.out.trans HM.out.symm) (Nat.le_trans (Nat.le_of_eq (like_len (HM7.out.trans HM.out.symm))) HL.out) (like_its (HM7.out.trans HM.out.symm) HLS.out)).mono ?_; rintro e w8 ⟨rfl, hb8'⟩; (have hb8 := below_chain (w := w1) hb7 hb8'); clear hb8')
      | (go_at_call 21; refine (flowGiven_any _ (HR.out.below hb8)).mono ?_; rintro e w9 ⟨rfl, hb9'⟩; (have hb9 := below_chain (w := w1) hb8 hb9'); clear hb9'))
  go_wp2_with fail
  go_ret
  exact ⟨rfl, HB1.out.trans (hb9.mono HB1.out.size)⟩
end
end Go.Proofs.Ytohkchilogmneaa
