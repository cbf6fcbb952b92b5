/-
  law17.live: the walk.
-/
import Derived.Test.YtdbjihkgafhakaaGreatDoorPool14
namespace Go.Proofs.YtdbjihkgafhakaaGreatDoor
open Go.RowKit

theorem place_one {nn : PN} {s : ByteArray} (h : nn.name = s) : placeP s [nn] = ((0 : Nat) : Int) := by
  refine placeP_of (x := nn) rfl ?_ (fun j y hj => absurd hj (Nat.not_lt_zero _))
  unfold eqS
  rw [h]
  simp
theorem one_ok {L : List PN} {a b : Int} {r0 r1 : List TRow} {nn : PN} {c0 c1 : PC} (h : OneN L a b r0 r1 nn c0 c1) (h0 : totT r0 ≤ 1000) (h1 : totT r1 ≤ 1000) : PoolOk ⟨1, 2, 1⟩ L := by
  refine ⟨by rw [h.L]; show 1 ≤ 1000000; decide, by decide, fun n hn => ?_, fun n hn c hc => ?_⟩
  · rw [h.L, List.mem_singleton] at hn
    rw [hn, h.name]
    decide
  · rw [h.L, List.mem_singleton] at hn
    rw [hn, h.cls] at hc
    rcases List.mem_cons.1 hc with rfl | hc
    · rw [h.w0]
      omega
    · rw [List.mem_singleton] at hc
      rw [hc, h.w1]
      omega
theorem one_set0 {L : List PN} {a b a' : Int} {r0 r1 r : List TRow} {nn : PN} {c0 c1 c' : PC} (h : OneN L a b r0 r1 nn c0 c1) (hs : c'.served = a') (hr : c'.rows = r) : OneN (L.set 0 { nn with cls := nn.cls.set 0 c' }) a' b r r1 { nn with cls := nn.cls.set 0 c' } c' c1 :=
  ⟨by rw [h.L]; rfl, h.name, h.uses, by show nn.cls.set 0 c' = _; rw [h.cls]; rfl, hs, h.s1, hr, h.w1⟩
theorem one_set1 {L : List PN} {a b b' : Int} {r0 r1 r : List TRow} {nn : PN} {c0 c1 c' : PC} (h : OneN L a b r0 r1 nn c0 c1) (hs : c'.served = b') (hr : c'.rows = r) : OneN (L.set 0 { nn with cls := nn.cls.set 1 c' }) a b' r0 r { nn with cls := nn.cls.set 1 c' } c0 c' :=
  ⟨by rw [h.L]; rfl, h.name, h.uses, by show nn.cls.set 1 c' = _; rw [h.cls]; rfl, h.s0, hs, h.w0, hr⟩
theorem liv_few (k : Nat) : totT (liv0 k) ≤ 1000 ∧ totT (liv1 k) ≤ 1000 := by
  match k with
  | 0 => decide
  | 1 => decide
  | 2 => decide
  | 3 => decide
  | k + 4 => exact ⟨by show totT (liv0 4) ≤ 1000; decide, by show totT (liv1 4) ≤ 1000; decide⟩
set_option maxRecDepth 100000 in
set_option maxHeartbeats 8000000 in
/-- THE WALK: live. -/
theorem live17_any (w : World) (hr : Ready w) : Calls Tryz.prog 8 #[] w (TrueBelow w) := by
  have HR := Lib.hid hr
  clear hr
  go_enter Tryz.func8, Tryz.ntmps8
  go_wp2_with fail
  refine (pnew_any 1 1 2 w (by decide) (by decide) (by decide) (by decide)).mono ?_
  rintro e w1 ⟨rfl, hb1, hp1⟩
  have HP1 := Lib.hid (show PlState w (w.heap.size + 2) ⟨1, 2, 1⟩ 0 (.slice none 0 0) [] (newRho w) w1 from ⟨hp1, hb1, fun j hj => by simp [newRho]; omega⟩)
  clear hb1 hp1
  obtain ⟨P, hP⟩ : ∃ P : Nat, P = w.heap.size + 2 := ⟨_, rfl⟩
  rw [← hP] at HP1
  rw [← hP]
  clear hP
  go_wp2_with fail
  refine (penter_new ⟨#[]⟩ w1 HP1.out.pool ⟨by decide, by decide, (fun n hn => by cases hn), (fun n hn => by cases hn)⟩ rfl (by decide) (by decide) (by decide) (by decide)).mono ?_
  rintro e w2 ⟨rfl, v2, nb, nn, hnew, hlen, ρ2, hl2, hn2, hp2, hF2⟩
  have HP2 := Lib.hid (HP1.out.step hl2 hp2 hF2)
  obtain ⟨c0, c1, hcl⟩ : ∃ c0 c1, nn.cls = [c0, c1] := by
    match nn.cls, hlen with
    | [c0, c1], _ => exact ⟨c0, c1, rfl⟩
  have HN := Lib.hid (And.intro hnew hcl)
  have HOK2 := Lib.hid (show PoolOk ⟨1, 2, 1⟩ ([] ++ [nn]) from ⟨by show 1 ≤ 1000000; decide, by decide, (fun n hn => by rw [List.nil_append, List.mem_singleton] at hn; rw [hn, hnew.1]; decide), (fun n hn c hc => by
    rw [List.nil_append, List.mem_singleton] at hn
    rw [hn] at hc
    obtain ⟨j, hj⟩ := List.getElem?_of_mem hc
    rw [(hnew.2.2.2 j c hj).2.2]
    decide)⟩)
  clear hl2 hn2 hp2 hF2 hnew hcl hlen
  go_wp2_with fail
  refine (penter_old ⟨#[]⟩ 0 nn w2 HP2.out.pool HOK2.out (place_one HN.out.1.1) rfl (by rw [HN.out.1.2.1]; decide)).mono ?_
  rintro e w3 ⟨rfl, ρ3, hl3, hn3, hp3, hF3⟩
  have HP3 := Lib.hid (HP2.out.step hl3 hp3 hF3)
  have HO3 := Lib.hid (show OneN ([nn].set 0 { nn with uses := nn.uses + 1 }) 0 1 (liv0 0) (liv1 0) { nn with uses := nn.uses + 1 } c0 c1 from
    ⟨rfl, HN.out.1.1, by show nn.uses + 1 = 2; rw [HN.out.1.2.1]; rfl, HN.out.2, by have h := (HN.out.1.2.2.2 0 c0 (by rw [HN.out.2]; rfl)).1; simpa using h, by have h := (HN.out.1.2.2.2 1 c1 (by rw [HN.out.2]; rfl)).1; simpa using h, (HN.out.1.2.2.2 0 c0 (by rw [HN.out.2]; rfl)).2.2, (HN.out.1.2.2.2 1 c1 (by rw [HN.out.2]; rfl)).2.2⟩)
  clear hl3 hn3 hp3 hF3
  go_wp2_with fail
  go_loopg [4] 4 (fun g i wr => ∃ (k : Nat) (v : Value) (L : List PN) (nn : PN) (c0 c1 : PC) (ρ : Roles), g = 4 - k ∧ i = .int .i64 ((k : Int) + 1) ∧ k ≤ 4 ∧ OneN L 0 1 (liv0 k) (liv1 k) nn c0 c1 ∧ PlState w P ⟨1, 2, 1⟩ (0 + 2) v L ρ wr)
  case atStart => exact ⟨0, _, _, _, _, _, _, rfl, rfl, by decide, HO3.out, HP3.out⟩
  case round =>
    obtain ⟨k, v, L, nn, c0, c1, ρ, hg, rfl, hk, hO, hP⟩ := hrel
    have HG := Lib.hid hg
    have HO := Lib.hid hO
    have HP := Lib.hid hP
    have HOK := Lib.hid (one_ok hO (liv_few k).1 (liv_few k).2)
    clear hg hO hP
    obtain rfl | rfl | rfl | rfl | rfl : k = 0 ∨ k = 1 ∨ k = 2 ∨ k = 3 ∨ k = 4 := by omega
    · go_wp2_with fail
      refine (ppush_some (livE 1 1) 0 1 nn c1 wr HP.out.pool HOK.out (by rw [HO.out.L]; exact place_one HO.out.name) (by rw [HO.out.L]; rfl) rfl (by rw [HO.out.cls]; rfl) (by unfold I64; decide) (by unfold I64; decide) (by unfold I64; decide) (by rw [HO.out.w1]; decide) (by rw [HO.out.w1]; decide)).mono ?_
      rintro e w4 ⟨rfl, ρ4, hl4, hn4, hp4, hF4⟩
      rw [show (pushT (livE 1 1) c1.rows).1 = 0 by rw [HO.out.w1]; exact liv_code.1]
      have HP4 := Lib.hid (HP.out.step hl4 hp4 hF4)
      have HO4 := Lib.hid (one_set1 (c' := { c1 with rows := (pushT (livE 1 1) c1.rows).2 }) HO.out (HO.out.s1) (show (pushT (livE 1 1) c1.rows).2 = liv1 1 by rw [HO.out.w1]; rfl))
      clear hl4 hn4 hp4 hF4
      go_wp2_with fail
      refine (num17_any _ _).mono ?_
      rintro e w5 ⟨rfl, rfl⟩
      go_wp2_with fail
      go_roundg (4 - (0 + 1))
      case rel => exact ⟨1, _, _, _, _, _, _, rfl, rfl, by decide, HO4.out, HP4.out⟩
      case measure => have := HG.out; omega
    · go_wp2_with fail
      refine (ppush_some (livE 2 0) 0 0 nn c0 wr HP.out.pool HOK.out (by rw [HO.out.L]; exact place_one HO.out.name) (by rw [HO.out.L]; rfl) rfl (by rw [HO.out.cls]; rfl) (by unfold I64; decide) (by unfold I64; decide) (by unfold I64; decide) (by rw [HO.out.w0]; decide) (by rw [HO.out.w0]; decide)).mono ?_
      rintro e w4 ⟨rfl, ρ4, hl4, hn4, hp4, hF4⟩
      rw [show (pushT (livE 2 0) c0.rows).1 = 0 by rw [HO.out.w0]; exact liv_code.2.1]
      have HP4 := Lib.hid (HP.out.step hl4 hp4 hF4)
      have HO4 := Lib.hid (one_set0 (c' := { c0 with rows := (pushT (livE 2 0) c0.rows).2 }) HO.out (HO.out.s0) (show (pushT (livE 2 0) c0.rows).2 = liv0 2 by rw [HO.out.w0]; rfl))
      clear hl4 hn4 hp4 hF4
      go_wp2_with fail
      refine (num17_any _ _).mono ?_
      rintro e w5 ⟨rfl, rfl⟩
      go_wp2_with fail
      go_roundg (4 - (1 + 1))
      case rel => exact ⟨2, _, _, _, _, _, _, rfl, rfl, by decide, HO4.out, HP4.out⟩
      case measure => have := HG.out; omega
    · go_wp2_with fail
      refine (ppush_some (livE 3 1) 0 1 nn c1 wr HP.out.pool HOK.out (by rw [HO.out.L]; exact place_one HO.out.name) (by rw [HO.out.L]; rfl) rfl (by rw [HO.out.cls]; rfl) (by unfold I64; decide) (by unfold I64; decide) (by unfold I64; decide) (by rw [HO.out.w1]; decide) (by rw [HO.out.w1]; decide)).mono ?_
      rintro e w4 ⟨rfl, ρ4, hl4, hn4, hp4, hF4⟩
      rw [show (pushT (livE 3 1) c1.rows).1 = 0 by rw [HO.out.w1]; exact liv_code.2.2.1]
      have HP4 := Lib.hid (HP.out.step hl4 hp4 hF4)
      have HO4 := Lib.hid (one_set1 (c' := { c1 with rows := (pushT (livE 3 1) c1.rows).2 }) HO.out (HO.out.s1) (show (pushT (livE 3 1) c1.rows).2 = liv1 3 by rw [HO.out.w1]; rfl))
      clear hl4 hn4 hp4 hF4
      go_wp2_with fail
      refine (num17_any _ _).mono ?_
      rintro e w5 ⟨rfl, rfl⟩
      go_wp2_with fail
      go_roundg (4 - (2 + 1))
      case rel => exact ⟨3, _, _, _, _, _, _, rfl, rfl, by decide, HO4.out, HP4.out⟩
      case measure => have := HG.out; omega
    · go_wp2_with fail
      refine (ppush_some (livE 4 0) 0 0 nn c0 wr HP.out.pool HOK.out (by rw [HO.out.L]; exact place_one HO.out.name) (by rw [HO.out.L]; rfl) rfl (by rw [HO.out.cls]; rfl) (by unfold I64; decide) (by unfold I64; decide) (by unfold I64; decide) (by rw [HO.out.w0]; decide) (by rw [HO.out.w0]; decide)).mono ?_
      rintro e w4 ⟨rfl, ρ4, hl4, hn4, hp4, hF4⟩
      rw [show (pushT (livE 4 0) c0.rows).1 = 0 by rw [HO.out.w0]; exact liv_code.2.2.2]
      have HP4 := Lib.hid (HP.out.step hl4 hp4 hF4)
      have HO4 := Lib.hid (one_set0 (c' := { c0 with rows := (pushT (livE 4 0) c0.rows).2 }) HO.out (HO.out.s0) (show (pushT (livE 4 0) c0.rows).2 = liv0 4 by rw [HO.out.w0]; rfl))
      clear hl4 hn4 hp4 hF4
      go_wp2_with fail
      refine (num17_any _ _).mono ?_
      rintro e w5 ⟨rfl, rfl⟩
      go_wp2_with fail
      go_roundg (4 - (3 + 1))
      case rel => exact ⟨4, _, _, _, _, _, _, rfl, rfl, by decide, HO4.out, HP4.out⟩
      case measure => have := HG.out; omega
    · have HT0a := Lib.hid (show totT (liv0 4) = 2 from liv_tot.1)
      have HT0b := Lib.hid (show totT (liv1 4) = 2 from liv_tot.2)
      go_wp2_with fail
      have HOK1 := Lib.hid (one_ok HO.out (by have := HT0a.out; omega) (by have := HT0b.out; omega))
      refine (ptake_some (most := 1) (pl := ⟨#[]⟩) ⟨0, nn, 0, c0⟩ wr (HR.out.below HP.out.below) HP.out.pool HOK1.out (by decide) (by rw [one_best HO.out (by have := HT0a.out; omega) (by have := HT0b.out; omega), if_neg (by decide)]) (by decide)).mono ?_
      rintro e wa1 ⟨row1, rest1, ρa1, rfl, hpk, hl, hn, hp, hF⟩
      have HT1 := Lib.hid (show 1 ≤ totT (tookT row1 rest1).2 + (2 - totT c0.rows) ∧ totT (tookT row1 rest1).2 ≤ totT c0.rows ∧ totT c0.rows ≤ totT (tookT row1 rest1).2 + 1 from by
        have h1 := picksT_tot hpk
        have h2 := totT_took_ge row1 rest1
        have h3 := totT_took row1 rest1
        have h4 : 1 ≤ totT c0.rows := by rw [HO.out.w0]; have := HT0a.out; omega
        simp only at h1
        omega)
      obtain ⟨E1, hE1⟩ : ∃ E : Ent, E = { entOf row1 with need := nn.name, cls := ((0 : Nat) : Int) } := ⟨_, rfl⟩
      rw [← hE1]
      have HE1 := Lib.hid (show E1.cls = 0 by rw [hE1]; rfl)
      have HQ1 := Lib.hid (HP.out.step hl hp hF).fence
      have HO1x := Lib.hid (one_set0 (c' := { c0 with served := 2, gv := (tookT row1 rest1).1, rows := (tookT row1 rest1).2 }) HO.out rfl rfl)
      clear hpk hl hn hp hF hE1
      go_upto_region 9 with (refine wpList_store_new rfl 25 _ _ rfl wa1.heap.size rfl (entC E1) rfl rfl (ent_sz E1) rfl (ent_one E1) ?_)
      obtain ⟨wb1, hwb⟩ : ∃ wb : World, wb = wa1.alloc (.cells (entC E1) 25) := ⟨_, rfl⟩
      obtain ⟨eb1, heb⟩ : ∃ eb : Nat, eb = wa1.heap.size := ⟨_, rfl⟩
      try simp only [Act.put]
      rw [← hwb, ← heb]
      have HP1x := Lib.hid (show PlState w P ⟨1, 2, 1⟩ (2 + 1) _ _ (fence ρa1 wa1) wb1 by rw [hwb]; exact HQ1.out.on box_below)
      have HX1_1 := Lib.hid (show wb1.heap[eb1]? = some (.cells (entC E1) 25 (0, 0)) by rw [hwb, heb]; exact fr_alloc_at)
      have HZ1_1 := Lib.hid (show fence ρa1 wa1 eb1 = [] by rw [heb]; exact fence_far (Nat.le_refl _))
      clear hwb heb
      obtain ⟨d1, hd1⟩ : ∃ d : PC, d = { c0 with served := 2, gv := (tookT row1 rest1).1, rows := (tookT row1 rest1).2 } := ⟨_, rfl⟩
      obtain ⟨m1, hm1⟩ : ∃ m : PN, m = { nn with cls := nn.cls.set 0 d1 } := ⟨_, rfl⟩
      rw [← hd1, ← hm1] at HO1x
      have HT1a := Lib.hid (show 1 ≤ totT (tookT row1 rest1).2 ∧ totT (tookT row1 rest1).2 ≤ 2 by have h := HT1.out; rw [HO.out.w0] at h; have := HT0a.out; omega)
      replace HP1x := Lib.hid (show PlState w P ⟨1, 2, 1⟩ (2 + 1) _ (L.set 0 m1) (fence ρa1 wa1) wb1 by rw [hm1, hd1]; exact HP1x.out)
      clear hd1 hm1
      go_wp2_with fail
      have HOK2 := Lib.hid (one_ok HO1x.out (by have := HT1a.out; omega) (by have := HT0b.out; omega))
      refine (ptake_some (most := 1) (pl := ⟨#[]⟩) ⟨0, m1, 1, c1⟩ wb1 (HR.out.below HP1x.out.below) HP1x.out.pool HOK2.out (by decide) (by rw [one_best HO1x.out (by have := HT1a.out; omega) (by have := HT0b.out; omega), if_pos (by decide)]) (by decide)).mono ?_
      rintro e wa2 ⟨row2, rest2, ρa2, rfl, hpk, hl, hn, hp, hF⟩
      have HT2 := Lib.hid (show 1 ≤ totT (tookT row2 rest2).2 + (2 - totT c1.rows) ∧ totT (tookT row2 rest2).2 ≤ totT c1.rows ∧ totT c1.rows ≤ totT (tookT row2 rest2).2 + 1 from by
        have h1 := picksT_tot hpk
        have h2 := totT_took_ge row2 rest2
        have h3 := totT_took row2 rest2
        have h4 : 1 ≤ totT c1.rows := by rw [HO1x.out.w1]; have := HT0b.out; omega
        simp only at h1
        omega)
      obtain ⟨E2, hE2⟩ : ∃ E : Ent, E = { entOf row2 with need := m1.name, cls := ((1 : Nat) : Int) } := ⟨_, rfl⟩
      rw [← hE2]
      have HE2 := Lib.hid (show E2.cls = 1 by rw [hE2]; rfl)
      have HQ2 := Lib.hid (HP1x.out.step hl hp hF).fence
      have HO2x := Lib.hid (one_set1 (c' := { c1 with served := 3, gv := (tookT row2 rest2).1, rows := (tookT row2 rest2).2 }) HO1x.out rfl rfl)
      have HX1_2 := Lib.hid (pkeep hF HX1_1.out HZ1_1.out)
      have HZ1_2 := Lib.hid (show fence ρa2 wa2 eb1 = [] by rw [fence_later ρa2 wa2 eb1 (fp_lt_of_heap HX1_2.out), hl eb1 (fp_lt_of_heap HX1_1.out)]; exact HZ1_1.out)
      clear hpk hl hn hp hF hE2
      go_upto_region 10 with (refine wpList_store_new rfl 25 _ _ rfl wa2.heap.size rfl (entC E2) rfl rfl (ent_sz E2) rfl (ent_one E2) ?_)
      obtain ⟨wb2, hwb⟩ : ∃ wb : World, wb = wa2.alloc (.cells (entC E2) 25) := ⟨_, rfl⟩
      obtain ⟨eb2, heb⟩ : ∃ eb : Nat, eb = wa2.heap.size := ⟨_, rfl⟩
      try simp only [Act.put]
      rw [← hwb, ← heb]
      have HP2x := Lib.hid (show PlState w P ⟨1, 2, 1⟩ (3 + 1) _ _ (fence ρa2 wa2) wb2 by rw [hwb]; exact HQ2.out.on box_below)
      have HX2_2 := Lib.hid (show wb2.heap[eb2]? = some (.cells (entC E2) 25 (0, 0)) by rw [hwb, heb]; exact fr_alloc_at)
      have HZ2_2 := Lib.hid (show fence ρa2 wa2 eb2 = [] by rw [heb]; exact fence_far (Nat.le_refl _))
      replace HX1_2 := Lib.hid (show wb2.heap[eb1]? = some (.cells (entC E1) 25 (0, 0)) by rw [hwb]; exact fr_alloc_old HX1_2.out)
      clear hwb heb
      obtain ⟨d2, hd2⟩ : ∃ d : PC, d = { c1 with served := 3, gv := (tookT row2 rest2).1, rows := (tookT row2 rest2).2 } := ⟨_, rfl⟩
      obtain ⟨m2, hm2⟩ : ∃ m : PN, m = { m1 with cls := m1.cls.set 1 d2 } := ⟨_, rfl⟩
      rw [← hd2, ← hm2] at HO2x
      have HT2a := Lib.hid (show 1 ≤ totT (tookT row2 rest2).2 ∧ totT (tookT row2 rest2).2 ≤ 2 by have h := HT2.out; rw [HO.out.w1] at h; have := HT0b.out; omega)
      replace HP2x := Lib.hid (show PlState w P ⟨1, 2, 1⟩ (3 + 1) _ ((L.set 0 m1).set 0 m2) (fence ρa2 wa2) wb2 by rw [hm2, hd2]; exact HP2x.out)
      clear hd2 hm2
      go_wp2_with fail
      have HOK3 := Lib.hid (one_ok HO2x.out (by have := HT1a.out; omega) (by have := HT2a.out; omega))
      refine (ptake_some (most := 1) (pl := ⟨#[]⟩) ⟨0, m2, 0, d1⟩ wb2 (HR.out.below HP2x.out.below) HP2x.out.pool HOK3.out (by decide) (by rw [one_best HO2x.out (by have := HT1a.out; omega) (by have := HT2a.out; omega), if_neg (by decide)]) (by decide)).mono ?_
      rintro e wa3 ⟨row3, rest3, ρa3, rfl, hpk, hl, hn, hp, hF⟩
      have HT3 := Lib.hid (show 1 ≤ totT (tookT row3 rest3).2 + (2 - totT d1.rows) ∧ totT (tookT row3 rest3).2 ≤ totT d1.rows ∧ totT d1.rows ≤ totT (tookT row3 rest3).2 + 1 from by
        have h1 := picksT_tot hpk
        have h2 := totT_took_ge row3 rest3
        have h3 := totT_took row3 rest3
        have h4 : 1 ≤ totT d1.rows := by rw [HO2x.out.w0]; have := HT1a.out; omega
        simp only at h1
        omega)
      obtain ⟨E3, hE3⟩ : ∃ E : Ent, E = { entOf row3 with need := m2.name, cls := ((0 : Nat) : Int) } := ⟨_, rfl⟩
      rw [← hE3]
      have HE3 := Lib.hid (show E3.cls = 0 by rw [hE3]; rfl)
      have HQ3 := Lib.hid (HP2x.out.step hl hp hF).fence
      have HO3x := Lib.hid (one_set0 (c' := { d1 with served := 4, gv := (tookT row3 rest3).1, rows := (tookT row3 rest3).2 }) HO2x.out rfl rfl)
      have HX1_3 := Lib.hid (pkeep hF HX1_2.out HZ1_2.out)
      have HZ1_3 := Lib.hid (show fence ρa3 wa3 eb1 = [] by rw [fence_later ρa3 wa3 eb1 (fp_lt_of_heap HX1_3.out), hl eb1 (fp_lt_of_heap HX1_2.out)]; exact HZ1_2.out)
      have HX2_3 := Lib.hid (pkeep hF HX2_2.out HZ2_2.out)
      have HZ2_3 := Lib.hid (show fence ρa3 wa3 eb2 = [] by rw [fence_later ρa3 wa3 eb2 (fp_lt_of_heap HX2_3.out), hl eb2 (fp_lt_of_heap HX2_2.out)]; exact HZ2_2.out)
      clear hpk hl hn hp hF hE3
      go_upto_region 11 with (refine wpList_store_new rfl 25 _ _ rfl wa3.heap.size rfl (entC E3) rfl rfl (ent_sz E3) rfl (ent_one E3) ?_)
      obtain ⟨wb3, hwb⟩ : ∃ wb : World, wb = wa3.alloc (.cells (entC E3) 25) := ⟨_, rfl⟩
      obtain ⟨eb3, heb⟩ : ∃ eb : Nat, eb = wa3.heap.size := ⟨_, rfl⟩
      try simp only [Act.put]
      rw [← hwb, ← heb]
      have HP3x := Lib.hid (show PlState w P ⟨1, 2, 1⟩ (4 + 1) _ _ (fence ρa3 wa3) wb3 by rw [hwb]; exact HQ3.out.on box_below)
      have HX3_3 := Lib.hid (show wb3.heap[eb3]? = some (.cells (entC E3) 25 (0, 0)) by rw [hwb, heb]; exact fr_alloc_at)
      have HZ3_3 := Lib.hid (show fence ρa3 wa3 eb3 = [] by rw [heb]; exact fence_far (Nat.le_refl _))
      replace HX1_3 := Lib.hid (show wb3.heap[eb1]? = some (.cells (entC E1) 25 (0, 0)) by rw [hwb]; exact fr_alloc_old HX1_3.out)
      replace HX2_3 := Lib.hid (show wb3.heap[eb2]? = some (.cells (entC E2) 25 (0, 0)) by rw [hwb]; exact fr_alloc_old HX2_3.out)
      clear hwb heb
      obtain ⟨d3, hd3⟩ : ∃ d : PC, d = { d1 with served := 4, gv := (tookT row3 rest3).1, rows := (tookT row3 rest3).2 } := ⟨_, rfl⟩
      obtain ⟨m3, hm3⟩ : ∃ m : PN, m = { m2 with cls := m2.cls.set 0 d3 } := ⟨_, rfl⟩
      rw [← hd3, ← hm3] at HO3x
      have HOK4 := Lib.hid (one_ok HO3x.out (by have h := HT3.out; rw [HO2x.out.w0] at h; have := HT1a.out; omega) (by have := HT2a.out; omega))
      replace HP3x := Lib.hid (show PlState w P ⟨1, 2, 1⟩ (4 + 1) _ (((L.set 0 m1).set 0 m2).set 0 m3) (fence ρa3 wa3) wb3 by rw [hm3, hd3]; exact HP3x.out)
      clear hd3 hm3
      have z1 : wb3.cell? ⟨eb1, 1, none⟩ = some (.int .i64 0) := by rw [← HE1.out]; exact fr_cell_of_heap HX1_3.out rfl
      have z2 : wb3.cell? ⟨eb2, 1, none⟩ = some (.int .i64 1) := by rw [← HE2.out]; exact fr_cell_of_heap HX2_3.out rfl
      have z3 : wb3.cell? ⟨eb3, 1, none⟩ = some (.int .i64 0) := by rw [← HE3.out]; exact fr_cell_of_heap HX3_3.out rfl
      go_wp2_with fail
      refine (num17_any _ _).mono ?_
      rintro e w5 ⟨rfl, rfl⟩
      go_wp2_with fail
      refine (num17_any _ _).mono ?_
      rintro e w5 ⟨rfl, rfl⟩
      go_wp2_with fail
      refine (puses_some ⟨#[]⟩ 0 m3 wb3 HP3x.out.pool HOK4.out (by rw [HO3x.out.L]; exact place_one HO3x.out.name) (by rw [HO3x.out.L]; rfl)).mono ?_
      rintro e w6 ⟨rfl, hb6⟩
      rw [HO3x.out.uses]
      have HP6 := Lib.hid (HP3x.out.on hb6)
      clear hb6 z1 z2 z3
      go_wp2_with fail
      refine (penter_full ⟨#[97, 61, 98]⟩ w6 HP6.out.pool HOK4.out (by rw [HO3x.out.L]; refine placeP_none (fun j y _ hy => ?_); have hm := List.mem_of_getElem? hy; rw [List.mem_singleton] at hm; rw [hm]; unfold eqS; rw [HO3x.out.name]; exact ba_list_ne (fun e => by have h := congrArg ByteArray.size e; exact absurd h (by decide))) (by rw [HO3x.out.L]; show (1 : Int) ≤ 1; decide)).mono ?_
      rintro e w7 ⟨rfl, hb7⟩
      have HB7 := Lib.hid (HP6.out.below.trans (hb7.mono HP6.out.below.size))
      clear hb7
      go_wp2_with fail
      refine (num17_any _ _).mono ?_
      rintro e w8 ⟨rfl, rfl⟩
      go_wp2_with fail
      go_ret
      exact ⟨rfl, HB7.out⟩
end Go.Proofs.YtdbjihkgafhakaaGreatDoor
