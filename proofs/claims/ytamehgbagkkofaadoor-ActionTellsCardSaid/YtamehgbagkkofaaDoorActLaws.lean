/-
  ActionOf and ActionTells: the walks.
-/
import Derived.Test.YtamehgbagkkofaaDoorActRight
import Derived.Test.YtamehgbagkkofaaDoorActRef
import Derived.Test.YtamehgbagkkofaaDoorPOrder2
namespace Go.Proofs.YtamehgbagkkofaaDoor
open Go.RowKit

theorem num18_any (e : Int) (w : World) : Calls Tryd.prog 23 #[.int .i64 e] w fun r w' => r = .returned (.int .i64 e) ∧ w = w' := by
  go_enter Tryd.func23, Tryd.ntmps23
  go_wp2
  go_ret
  exact ⟨rfl, rfl⟩
/-- What was made may be. -/
theorem right_of {k c p : ByteArray} (h : ofE k c p = 0) : rightB k c (ba (canonP p)) = true := by
  have hn : nameB k = true := by
    rcases h1 : nameB k with _ | _
    · rw [ofE_name h1] at h; cases h
    · rfl
  have hl : ¬ 64 < c.size := fun h1 => by rw [ofE_long hn h1] at h; cases h
  rw [ofE_plat hn hl] at h
  have ht := canon_twice h
  refine rightB_yes (by rw [ofE_plat hn hl]; exact ht.1) (by rw [ht.2]; exact ba_list_self _)
theorem canon_small {s : ByteArray} (h : canonE s = 0) (hs : s.size ≤ 1000) : (ba (canonP s)).size ≤ 1048576 := by
  have e : canonP s = showP (sortP (parseP s).1) := by unfold canonP; rw [if_pos h]
  rw [e]
  exact show_small h hs (sortP_perm _)
theorem ofE_zero {k c p : ByteArray} (h : ofE k c p = 0) : canonE p = 0 := by
  have hn : nameB k = true := by
    rcases h1 : nameB k with _ | _
    · rw [ofE_name h1] at h; cases h
    · rfl
  have hl : ¬ 64 < c.size := fun h1 => by rw [ofE_long hn h1] at h; cases h
  rwa [ofE_plat hn hl] at h

set_option maxRecDepth 100000 in
set_option maxHeartbeats 1000000 in
theorem actionOf_long (k c p : ByteArray) (w : World) (h : 500 < k.size ∨ 500 < c.size ∨ 500 < p.size) (hk : k.size ≤ 140737488351232) (hc : c.size ≤ 140737488351232) (hp : p.size ≤ 140737488351232) :
    Calls Tryd.prog 6 #[.string k, .string c, .string p] w (TrueBelow w) := by
  by_cases h1 : 500 < k.size
  · go_enter Tryd.func6, Tryd.ntmps6
    go_wp2_with fail
    refine (live18_any _).mono ?_
    rintro e w1 ⟨rfl, hb1⟩
    go_wp2
    go_ret
    exact ⟨rfl, hb1⟩
  · by_cases h2 : 500 < c.size
    · go_enter Tryd.func6, Tryd.ntmps6
      go_wp2_with fail
      refine (live18_any _).mono ?_
      rintro e w1 ⟨rfl, hb1⟩
      go_wp2
      go_ret
      exact ⟨rfl, hb1⟩
    · have h3 : 500 < p.size := by omega
      go_enter Tryd.func6, Tryd.ntmps6
      go_wp2_with fail
      refine (live18_any _).mono ?_
      rintro e w1 ⟨rfl, hb1⟩
      go_wp2
      go_ret
      exact ⟨rfl, hb1⟩

set_option maxRecDepth 100000 in
set_option maxHeartbeats 1000000 in
theorem actionOf_bad (k c p : ByteArray) (w : World) (hr : Ready w) (hk : k.size ≤ 500) (hc : c.size ≤ 500) (hp : p.size ≤ 500) (h0 : ofE k c p ≠ 0) :
    Calls Tryd.prog 6 #[.string k, .string c, .string p] w (TrueBelow w) := by
  have HR := Lib.hid hr
  have HZ := Lib.hid h0
  have hne : (ofE k c p != 0) = true := by rw [bne_iff_ne]; exact h0
  clear hr h0
  go_enter Tryd.func6, Tryd.ntmps6
  go_wp2_with fail
  refine (of_bad k c p _ HR.out (by omega) (by omega) (by omega) HZ.out).mono ?_
  rintro e w1 ⟨rfl, hb1⟩
  have HB1 := Lib.hid hb1
  clear hb1
  go_wp2_with fail
  refine (rof_bad k c p _ (by omega) (by omega) (by omega) HZ.out).mono ?_
  rintro e w2 ⟨rfl, hb2⟩
  have hz := HB1.out.size
  have HB2 := Lib.hid ((HB1.out.alloc hz _).trans (hb2.mono (by simp; omega)))
  have hz2 : w1.heap.size < w2.heap.size := by have := hb2.size; simp at this; omega
  have c0 : w2.cell? ⟨w1.heap.size, 0, none⟩ = some (.string ⟨#[]⟩) := cell_below hb2 (by simp)
  have c1 : w2.cell? ⟨w1.heap.size, 1, none⟩ = some (.string ⟨#[]⟩) := cell_below hb2 (by simp)
  have c2 : w2.cell? ⟨w1.heap.size, 2, none⟩ = some (.string ⟨#[]⟩) := cell_below hb2 (by simp)
  clear hb2
  go_wp2_with fail
  refine (num18_any _ _).mono ?_
  rintro e w3 ⟨rfl, rfl⟩
  go_wp2_with fail
  refine (live18_any _).mono ?_
  rintro e w4 ⟨rfl, hb4⟩
  go_wp2
  go_ret
  exact ⟨rfl, (HB2.out.alloc HB2.out.size _).trans (hb4.mono (by have := HB2.out.size; simp; omega))⟩
set_option maxRecDepth 100000 in
set_option maxHeartbeats 1000000 in
theorem actionOf_good (k c p : ByteArray) (w : World) (hr : Ready w) (hk : k.size ≤ 500) (hc : c.size ≤ 500) (hp : p.size ≤ 500) (h0 : ofE k c p = 0) :
    Calls Tryd.prog 6 #[.string k, .string c, .string p] w (TrueBelow w) := by
  have HR := Lib.hid hr
  have HZ := Lib.hid h0
  have HG := Lib.hid (right_of h0)
  have hsm := canon_small (ofE_zero h0) (by omega)
  clear hr h0
  go_enter Tryd.func6, Tryd.ntmps6
  go_wp2_with fail
  refine (of_good k c p _ HR.out (by omega) (by omega) (by omega) HZ.out).mono ?_
  rintro e w1 ⟨rfl, hb1⟩
  have HB1 := Lib.hid hb1
  clear hb1
  go_wp2_with fail
  refine (rof_good k c p _ (by omega) (by omega) (by omega) HZ.out).mono ?_
  rintro e w2 ⟨rfl, hb2⟩
  have hz := HB1.out.size
  have HB2 := Lib.hid ((HB1.out.alloc hz _).trans (hb2.mono (by simp; omega)))
  have hz2 : w1.heap.size < w2.heap.size := by have := hb2.size; simp at this; omega
  have c0 : w2.cell? ⟨w1.heap.size, 0, none⟩ = some (.string k) := cell_below hb2 (by simp)
  have c1 : w2.cell? ⟨w1.heap.size, 1, none⟩ = some (.string c) := cell_below hb2 (by simp)
  have c2 : w2.cell? ⟨w1.heap.size, 2, none⟩ = some (.string (ba (canonP p))) := cell_below hb2 (by simp)
  have hkk := ba_list_self k
  have hcc := ba_list_self c
  have hpp := ba_list_self (ba (canonP p))
  clear hb2
  go_wp2_with fail
  refine (num18_any _ _).mono ?_
  rintro e w3 ⟨rfl, rfl⟩
  go_wp2_with fail
  have HB3 := Lib.hid (HB2.out.alloc HB2.out.size (.cells #[.string k, .string c, .string (ba (canonP p))] 41))
  refine (right_any k c (ba (canonP p)) _ (HR.out.below HB3.out) (by omega) (by omega) hsm).mono ?_
  rintro e w3 ⟨rfl, hb3⟩
  rw [HG.out]
  have HB4 := Lib.hid (HB3.out.trans (hb3.mono HB3.out.size))
  clear hb3
  go_wp2_with fail
  refine (live18_any _).mono ?_
  rintro e w4 ⟨rfl, hb4⟩
  go_wp2
  go_ret
  exact ⟨rfl, HB4.out.trans (hb4.mono HB4.out.size)⟩
/-- THE WALK: ActionOf. -/
theorem actionOf_any (k c p : ByteArray) (w : World) (hr : Ready w) (hk : k.size ≤ 140737488351232) (hc : c.size ≤ 140737488351232) (hp : p.size ≤ 140737488351232) :
    Calls Tryd.prog 6 #[.string k, .string c, .string p] w (TrueBelow w) := by
  by_cases h : 500 < k.size ∨ 500 < c.size ∨ 500 < p.size
  · exact actionOf_long k c p w h hk hc hp
  · by_cases h0 : ofE k c p = 0
    · exact actionOf_good k c p w hr (by omega) (by omega) (by omega) h0
    · exact actionOf_bad k c p w hr (by omega) (by omega) (by omega) h0

theorem Ready.regrown {w : World} (h : Ready w) (d : Nat) (os : Array Obj) : Ready (Go.Sort.grow (redrawn w d) os) := h.below (below_regrown w d os)
set_option maxRecDepth 100000 in
set_option maxHeartbeats 1000000 in
theorem actionTells_short (k c n : ByteArray) (d : Nat) (w : World) (hr : Ready w) (hd : U64 d) (hk : k.size ≤ 500) (hc : c.size ≤ 500) (hp : n.size ≤ 500) :
    Calls Tryd.prog 7 #[.agg #[.string k, .string c, .string n], .int .u64 d] w (TrueBelow w) := by
  have hk' : k.size ≤ 140737488351232 := by omega
  have hc' : c.size ≤ 140737488351232 := by omega
  have hn' : n.size ≤ 140737488351232 := by omega
  have hn2 : n.size ≤ 1048576 := by omega
  have HR := Lib.hid hr
  clear hr
  go_enter Tryd.func7, Tryd.ntmps7
  go_wp2_with fail
  obtain ⟨w0, hw0⟩ : ∃ w0 : World, w0 = w.alloc (.cells #[.string k, .string c, .string n] 41) := ⟨_, rfl⟩
  rw [← hw0]
  have a0' := cell_regrown (w := w0) (a := ⟨w.heap.size, 0, none⟩) (v := .string k) (by rw [hw0]; simp)
  have a1' := cell_regrown (w := w0) (a := ⟨w.heap.size, 1, none⟩) (v := .string c) (by rw [hw0]; simp)
  have a2' := cell_regrown (w := w0) (a := ⟨w.heap.size, 2, none⟩) (v := .string n) (by rw [hw0]; simp)
  have hB0 : Below w.heap.size w w0 := by rw [hw0]; exact box_below
  have HB0 := Lib.hid hB0
  have HR0 := Lib.hid (HR.out.below hB0)
  clear hw0 hB0
  refine wp_region_quiet_below (by kernel_rfl) (by kernel_rfl) ?_
  repeat (go_big_quiet_step ((first | exact Calls.regrown_of (bytes_any _ _ _ _ (by assumption) (by assumption) (by assumption)) | exact Calls.regrown_of (rbytes_any _ _ _ _ (by assumption) (by assumption) (by assumption)) | exact Calls.regrown_of (digest_any _ _ _ _ (by assumption) (by assumption) (by assumption)) | exact Calls.regrown_of (rdigest_any _ _ _ _ (by assumption) (by assumption) (by assumption)) | exact Calls.regrown_of (hex_any _ _ (by assumption)) | exact Calls.regrown_of (below_of_same (rhex_any _ _ (by assumption))) | exact Calls.regrown_of (live18_any _) | exact Calls.regrown_of (right_any _ _ _ _ (HR0.out.regrown _ _) (by assumption) (by assumption) (by assumption)) | exact Calls.regrown_of (rright_any _ _ _ _ (by assumption) (by assumption) (by assumption)))))
  refine wpQuiet_nil ?_
  rintro _ ⟨⟨dq, osq⟩, rfl⟩
  go_wp2
  go_ret
  exact ⟨rfl, below_of_regrown HB0.out HB0.out.size⟩
set_option maxRecDepth 100000 in
set_option maxHeartbeats 1000000 in
theorem actionTells_long (k c n : ByteArray) (d : Nat) (w : World) (h : 500 < k.size ∨ 500 < c.size ∨ 500 < n.size) (hk : k.size ≤ 140737488351232) (hc : c.size ≤ 140737488351232) (hp : n.size ≤ 140737488351232) :
    Calls Tryd.prog 7 #[.agg #[.string k, .string c, .string n], .int .u64 d] w (TrueBelow w) := by
  by_cases h1 : 500 < k.size
  · go_enter Tryd.func7, Tryd.ntmps7
    go_wp2_with fail
    refine (live18_any _).mono ?_
    rintro e w1 ⟨rfl, hb1⟩
    go_wp2
    go_ret
    exact ⟨rfl, box_below.trans (hb1.mono (by simp))⟩
  · by_cases h2 : 500 < c.size
    · go_enter Tryd.func7, Tryd.ntmps7
      go_wp2_with fail
      refine (live18_any _).mono ?_
      rintro e w1 ⟨rfl, hb1⟩
      go_wp2
      go_ret
      exact ⟨rfl, box_below.trans (hb1.mono (by simp))⟩
    · have h3 : 500 < n.size := by omega
      go_enter Tryd.func7, Tryd.ntmps7
      go_wp2_with fail
      refine (live18_any _).mono ?_
      rintro e w1 ⟨rfl, hb1⟩
      go_wp2
      go_ret
      exact ⟨rfl, box_below.trans (hb1.mono (by simp))⟩
/-- THE WALK: ActionTells. -/
theorem actionTells_any (k c n : ByteArray) (d : Nat) (w : World) (hr : Ready w) (hd : U64 d) (hk : k.size ≤ 140737488351232) (hc : c.size ≤ 140737488351232) (hp : n.size ≤ 140737488351232) :
    Calls Tryd.prog 7 #[.agg #[.string k, .string c, .string n], .int .u64 d] w (TrueBelow w) := by
  by_cases h : 500 < k.size ∨ 500 < c.size ∨ 500 < n.size
  · exact actionTells_long k c n d w h hk hc hp
  · exact actionTells_short k c n d w hr hd (by omega) (by omega) (by omega)
end Go.Proofs.YtamehgbagkkofaaDoor
