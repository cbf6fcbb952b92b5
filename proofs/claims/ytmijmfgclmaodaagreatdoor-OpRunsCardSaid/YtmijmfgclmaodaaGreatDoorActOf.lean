/-
  action.Of and the document's.
-/
import Derived.Test.YtmijmfgclmaodaaGreatDoorFr
namespace Go.Proofs.YtmijmfgclmaodaaGreatDoor
open Go.RowKit

/-- What is wrong with an action first; 0: nothing. -/
def ofE (k c p : ByteArray) : Int := if nameB k = true then if 64 < c.size then 4 else canonE p else 5
theorem ofE_name {k c p : ByteArray} (h : nameB k = false) : ofE k c p = 5 := by unfold ofE; rw [if_neg (by rw [h]; decide)]
theorem ofE_long {k c p : ByteArray} (h : nameB k = true) (h2 : 64 < c.size) : ofE k c p = 4 := by unfold ofE; rw [if_pos h, if_pos h2]
theorem ofE_plat {k c p : ByteArray} (h : nameB k = true) (h2 : ¬ 64 < c.size) : ofE k c p = canonE p := by unfold ofE; rw [if_pos h, if_neg h2]


def noAct : Value := .agg #[.string ⟨#[]⟩, .string ⟨#[]⟩, .string ⟨#[]⟩]

set_option maxRecDepth 100000 in
set_option maxHeartbeats 1000000 in
theorem of_good (k c p : ByteArray) (w : World) (hr : Ready w) (hk : k.size ≤ 140737488351232) (hc : c.size ≤ 140737488351232) (hp : p.size ≤ 1048576) (h0 : ofE k c p = 0) :
    Calls Tryz.prog 78 #[.string k, .string c, .string p] w fun e w' => e = .returned (.tuple #[.agg #[.string k, .string c, .string (ba (canonP p))], .int .i64 0]) ∧ Below w.heap.size w w' := by
  have HR := Lib.hid hr
  clear hr
  have hn : nameB k = true := by
    rcases h : nameB k with _ | _
    · rw [ofE_name h] at h0; cases h0
    · rfl
  have hcs : ¬ 64 < c.size := fun h => by rw [ofE_long hn h] at h0; cases h0
  rw [ofE_plat hn hcs] at h0
  have HN := Lib.hid hn
  have HE := Lib.hid h0
  clear hn h0
  go_enter Tryz.func78, Tryz.ntmps78
  go_wp2_with fail
  refine (name_any k _ hk).mono ?_
  rintro e w1 ⟨rfl, hb1⟩
  rw [HN.out]
  have HB1 := Lib.hid hb1
  clear hb1
  go_wp2_with fail
  refine (canon_any p _ (HR.out.below (box_below.trans (HB1.out.mono (by simp)))) hp).mono ?_
  rintro e w2 ⟨rfl, hb2⟩
  rw [HE.out]
  have HB2 := Lib.hid (HB1.out.trans (hb2.mono HB1.out.size))
  clear hb2
  obtain ⟨hc2, hf2⟩ := bcell HB2.out
  have hz := HB2.out.size
  go_wp2
  refine bodyPost_ret (v := .tuple #[.agg #[.string k, .string c, .string (ba (canonP p))], .int .i64 0]) (by simp [results, Tryz.results78, go_sem, hc2]) rfl ⟨rfl, ?_⟩
  exact ((((box_below.trans (HB2.out.mono (by simp))).setCell (by simp) _).setCell (by simp) _).setCell (by simp) _)
set_option maxRecDepth 100000 in
set_option maxHeartbeats 1000000 in
theorem of_name (k c p : ByteArray) (w : World) (_hr : Ready w) (hk : k.size ≤ 140737488351232) (_hc : c.size ≤ 140737488351232) (_hp : p.size ≤ 1048576) (hn : nameB k = false) :
    Calls Tryz.prog 78 #[.string k, .string c, .string p] w fun e w' => e = .returned (.tuple #[.agg #[.string ⟨#[]⟩, .string ⟨#[]⟩, .string ⟨#[]⟩], .int .i64 5]) ∧ Below w.heap.size w w' := by
  have HN := Lib.hid hn
  clear hn
  go_enter Tryz.func78, Tryz.ntmps78
  go_wp2_with fail
  refine (name_any k _ hk).mono ?_
  rintro e w1 ⟨rfl, hb1⟩
  rw [HN.out]
  have HB1 := Lib.hid hb1
  clear hb1
  obtain ⟨hc2, hf2⟩ := bcell HB1.out
  have hz := HB1.out.size
  go_wp2
  refine bodyPost_ret (v := .tuple #[.agg #[.string ⟨#[]⟩, .string ⟨#[]⟩, .string ⟨#[]⟩], .int .i64 5]) (by simp [results, Tryz.results78, go_sem, hc2]) rfl ⟨rfl, ?_⟩
  exact ((((box_below.trans (HB1.out.mono (by simp))).setCell (by simp) _).setCell (by simp) _).setCell (by simp) _)
set_option maxRecDepth 100000 in
set_option maxHeartbeats 1000000 in
theorem of_long (k c p : ByteArray) (w : World) (_hr : Ready w) (hk : k.size ≤ 140737488351232) (hc : c.size ≤ 140737488351232) (_hp : p.size ≤ 1048576) (hn : nameB k = true) (hl : 64 < c.size) :
    Calls Tryz.prog 78 #[.string k, .string c, .string p] w fun e w' => e = .returned (.tuple #[.agg #[.string ⟨#[]⟩, .string ⟨#[]⟩, .string ⟨#[]⟩], .int .i64 4]) ∧ Below w.heap.size w w' := by
  have HN := Lib.hid hn
  clear hn
  go_enter Tryz.func78, Tryz.ntmps78
  go_wp2_with fail
  refine (name_any k _ hk).mono ?_
  rintro e w1 ⟨rfl, hb1⟩
  rw [HN.out]
  have HB1 := Lib.hid hb1
  clear hb1
  obtain ⟨hc2, hf2⟩ := bcell HB1.out
  have hz := HB1.out.size
  go_wp2
  refine bodyPost_ret (v := .tuple #[.agg #[.string ⟨#[]⟩, .string ⟨#[]⟩, .string ⟨#[]⟩], .int .i64 4]) (by simp [results, Tryz.results78, go_sem, hc2]) rfl ⟨rfl, ?_⟩
  exact ((((box_below.trans (HB1.out.mono (by simp))).setCell (by simp) _).setCell (by simp) _).setCell (by simp) _)
set_option maxRecDepth 100000 in
set_option maxHeartbeats 1000000 in
theorem of_plat (k c p : ByteArray) (w : World) (hr : Ready w) (hk : k.size ≤ 140737488351232) (hc : c.size ≤ 140737488351232) (hp : p.size ≤ 1048576) (hn : nameB k = true) (hl : ¬ 64 < c.size) (he : canonE p ≠ 0) :
    Calls Tryz.prog 78 #[.string k, .string c, .string p] w fun e w' => e = .returned (.tuple #[.agg #[.string ⟨#[]⟩, .string ⟨#[]⟩, .string ⟨#[]⟩], .int .i64 (canonE p)]) ∧ Below w.heap.size w w' := by
  have HR := Lib.hid hr
  clear hr
  have HN := Lib.hid hn
  have hne : (canonE p != 0) = true := by rw [bne_iff_ne]; exact he
  clear hn he
  go_enter Tryz.func78, Tryz.ntmps78
  go_wp2_with fail
  refine (name_any k _ hk).mono ?_
  rintro e w1 ⟨rfl, hb1⟩
  rw [HN.out]
  have HB1 := Lib.hid hb1
  clear hb1
  go_wp2_with fail
  refine (canon_any p _ (HR.out.below (box_below.trans (HB1.out.mono (by simp)))) hp).mono ?_
  rintro e w2 ⟨rfl, hb2⟩
  have HB2 := Lib.hid (HB1.out.trans (hb2.mono HB1.out.size))
  clear hb2
  obtain ⟨hc2, hf2⟩ := bcell HB2.out
  have hz := HB2.out.size
  go_wp2
  refine bodyPost_ret (v := .tuple #[.agg #[.string ⟨#[]⟩, .string ⟨#[]⟩, .string ⟨#[]⟩], .int .i64 (canonE p)]) (by simp [results, Tryz.results78, go_sem, hc2]) rfl ⟨rfl, ?_⟩
  exact ((((box_below.trans (HB2.out.mono (by simp))).setCell (by simp) _).setCell (by simp) _).setCell (by simp) _)
theorem of_bad (k c p : ByteArray) (w : World) (hr : Ready w) (hk : k.size ≤ 140737488351232) (hc : c.size ≤ 140737488351232) (hp : p.size ≤ 1048576) (h0 : ofE k c p ≠ 0) :
    Calls Tryz.prog 78 #[.string k, .string c, .string p] w fun e w' => e = .returned (.tuple #[.agg #[.string ⟨#[]⟩, .string ⟨#[]⟩, .string ⟨#[]⟩], .int .i64 (ofE k c p)]) ∧ Below w.heap.size w w' := by
  rcases hn : nameB k with _ | _
  · rw [ofE_name hn]
    exact of_name k c p w hr hk hc hp hn
  · by_cases hl : 64 < c.size
    · rw [ofE_long hn hl]
      exact of_long k c p w hr hk hc hp hn hl
    · rw [ofE_plat hn hl] at h0 ⊢
      exact of_plat k c p w hr hk hc hp hn hl h0
end Go.Proofs.YtmijmfgclmaodaaGreatDoor
