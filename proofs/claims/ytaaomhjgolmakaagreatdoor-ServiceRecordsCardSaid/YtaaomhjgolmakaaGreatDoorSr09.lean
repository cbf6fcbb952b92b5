/-
  billetref07.Check: what is wrong with a configuration.
  More small laws: a struct loaded whole inside a region that draws its order.
  bound and the reference's own: what they hand back, of any configuration.
  billetref07: Right, Classes: the walks.
-/
import Derived.Test.YtaaomhjgolmakaaGreatDoorSr08
import Derived.Test.YtaaomhjgolmakaaGreatDoorSr01
namespace Go.Proofs.YtaaomhjgolmakaaGreatDoor
open Go.RowKit
set_option maxHeartbeats 400000 in
theorem rin_any (n a b : Int) (w : World) :
    Calls Tryz.prog 85 #[.int .i64 n, .int .i64 a, .int .i64 b] w fun e w' => e = .returned (.bool (inB n a b)) ∧ w = w' := by
  by_cases h1 : a ≤ n
  · by_cases h2 : n ≤ b
    · have H := Lib.hid (show inB n a b = true by simp [inB, h1, h2])
      go_enter Tryz.func85, Tryz.ntmps85
      go_wp2
      go_ret
      exact ⟨ret_bool H.out.symm, rfl⟩
    · have H := Lib.hid (show inB n a b = false by simp [inB, h2])
      go_enter Tryz.func85, Tryz.ntmps85
      go_wp2
      go_ret
      exact ⟨ret_bool H.out.symm, rfl⟩
  · have H := Lib.hid (show inB n a b = false by simp [inB, h1])
    go_enter Tryz.func85, Tryz.ntmps85
    go_wp2
    go_ret
    exact ⟨ret_bool H.out.symm, rfl⟩
def lim1 (ls : List Int) (k : Nat) : Bool := inB (ls.getD k 0) 1 1048576 && (k == 0 || decide (ls.getD (k - 1) 0 < ls.getD k 0))
theorem limF_iff : ∀ (ls : List Int) (last : Int), 0 ≤ last → (limF last ls = true ↔ ∀ k, k < ls.length → (if k = 0 then last else ls.getD (k - 1) 0) < ls.getD k 0 ∧ ls.getD k 0 ≤ 1048576)
  | [], last, _ => by simp [limF]
  | n :: r, last, h0 => by
    unfold limF
    by_cases h1 : n ≤ last
    · rw [if_pos h1]
      simp only [Bool.false_eq_true, false_iff]
      intro h
      have := (h 0 (by simp)).1
      simp at this
      omega
    · rw [if_neg h1]
      by_cases h2 : 1048576 < n
      · rw [if_pos h2]
        simp only [Bool.false_eq_true, false_iff]
        intro h
        have := (h 0 (by simp)).2
        simp at this
        omega
      · rw [if_neg h2, limF_iff r n (by omega)]
        constructor
        · intro h k hk
          rcases k with _ | k
          · simp; omega
          · have := h k (by simpa using hk)
            rcases k with _ | k
            · simpa using this
            · simpa using this
        · intro h k hk
          have := h (k + 1) (by simpa using hk)
          rcases k with _ | k
          · simpa using this
          · simpa using this
theorem limF_lim1 (ls : List Int) : limF 0 ls = true ↔ ∀ k, k < ls.length → lim1 ls k = true := by
  rw [limF_iff ls 0 (by omega)]
  constructor
  · intro h k hk
    have h1 := h k hk
    unfold lim1 inB
    rcases k with _ | k
    · simp at h1 ⊢; omega
    · have hpos : ∀ j, j < ls.length → 0 < ls.getD j 0 := by
        intro j
        induction j with
        | zero => intro hj; have := (h 0 hj).1; simpa using this
        | succ j ih =>
          intro hj
          have h2 := (h (j + 1) hj).1
          have h3 := ih (by omega)
          simp only [Nat.add_sub_cancel, if_neg (Nat.succ_ne_zero j)] at h2
          omega
      have h4 := hpos (k + 1) hk
      simp only [Nat.add_sub_cancel, if_neg (Nat.succ_ne_zero k)] at h1
      simp only [Nat.add_sub_cancel, Bool.and_eq_true, Bool.or_eq_true, decide_eq_true_eq]
      exact ⟨⟨by omega, h1.2⟩, .inr h1.1⟩
  · intro h k hk
    have h1 := h k hk
    unfold lim1 inB at h1
    rcases k with _ | k
    · simp at h1 ⊢; omega
    · simp only [Nat.add_sub_cancel, Bool.and_eq_true, Bool.or_eq_true, decide_eq_true_eq] at h1
      simp only [Nat.add_sub_cancel, if_neg (Nat.succ_ne_zero k)]
      rcases h1.2 with h2 | h2
      · simp at h2
      · exact ⟨h2, h1.1.2⟩
theorem lim_bad {ls : List Int} {k : Nat} (hk : k < ls.length) (h : lim1 ls k = false) : limF 0 ls = false := by
  rcases Bool.eq_false_or_eq_true (limF 0 ls) with h1 | h1
  · have := (limF_lim1 ls).1 h1 k hk
    rw [h] at this
    cases this
  · exact h1
set_option maxHeartbeats 1000000 in
theorem rises_any (v : Value) (ls : List Int) (w : World) (hL : IntsAt w v ls) :
    Calls Tryz.prog 86 #[v] w fun e w' => e = .returned (.bool (limF 0 ls)) ∧ Below w.heap.size w w' := by
  obtain ⟨a, cap, rfl, hlen, hcell⟩ := hL
  have HC := Lib.hid hcell; clear hcell
  go_enter Tryz.func86, Tryz.ntmps86
  go_wp2
  go_loopw [3] (fun i wr => ∃ k : Nat, k ≤ ls.length ∧ i = .int .i64 k ∧ (∀ j, j < k → lim1 ls j = true) ∧ Below w.heap.size w wr) (fun i _ => ls.length - (intOf i).toNat)
  case atStart => exact ⟨0, Nat.zero_le _, rfl, fun j hj => by omega, Below.refl _ _⟩
  case round =>
    obtain ⟨k, hk, rfl, hno, hb⟩ := hrel
    have HN := Lib.hid hno; clear hno
    by_cases hlt : k < ls.length
    · obtain ⟨n, hn⟩ : ∃ n, ls[k]? = some n := ⟨_, List.getElem?_eq_getElem hlt⟩
      obtain ⟨b, off, rfl, c0⟩ := HC.out k n hn
      have hgd : ls.getD k 0 = n := by rw [List.getD, hn]; rfl
      have d0 := cell_regrown (cell_below hb c0)
      have HN0 := Lib.hid hn
      have HGD := Lib.hid hgd
      clear hn c0 hgd
      rcases Bool.eq_false_or_eq_true (inB n 1 1048576) with hi | hi
      · by_cases hk0 : k = 0
        · have HI := Lib.hid hi
          have HE := Lib.hid (show lim1 ls k = true by unfold lim1; rw [HGD.out, hi]; simp [hk0])
          have e0 : decide (0 < k) = false := by simp [hk0]
          have HK := Lib.hid hk0
          clear hk0
          go_wp2_with fail
          refine wp_region_quiet_below (by kernel_rfl) (by kernel_rfl) ?_
          repeat (go_big_quiet_step ((exact Calls.regrown_of (below_of_same (rin_any _ _ _ _)))))
          refine wpQuiet_nil ?_
          rintro _ ⟨⟨dq, osq⟩, rfl⟩
          have hb2 := below_of_regrown (d := dq) (os := osq) hb hb.size
          generalize Go.Sort.grow (redrawn wr dq) osq = w2 at *
          clear hi d0 e0
          go_wp2
          go_roundw
          case rel =>
            refine ⟨k + 1, by omega, by go_num, fun j hj => ?_, hb2⟩
            rcases Nat.lt_or_ge j k with h | h
            · exact HN.out j h
            · obtain rfl : j = k := by omega
              exact HE.out
          case measure => simp [intOf]; omega
        · obtain ⟨m, hm⟩ : ∃ m, ls[k - 1]? = some m := ⟨_, List.getElem?_eq_getElem (by omega)⟩
          obtain ⟨b', off', hbb, c1⟩ := HC.out (k - 1) m hm
          cases hbb
          have hgm : ls.getD (k - 1) 0 = m := by rw [List.getD, hm]; rfl
          have d1 := cell_regrown (cell_below hb c1)
          have HGM := Lib.hid hgm
          clear hgm c1 hm
          have e0 : decide (0 < k) = true := by simp; omega
          by_cases hle : n ≤ m
          · have HE := Lib.hid (lim_bad hlt (show lim1 ls k = false by unfold lim1; rw [HGD.out, HGM.out]; simp [hk0]; omega))
            have e1 : decide (n ≤ m) = true := by simp [hle]
            go_wp2_with fail
            refine wp_region_quiet_below (by kernel_rfl) (by kernel_rfl) ?_
            repeat (go_big_quiet_step ((exact Calls.regrown_of (below_of_same (rin_any _ _ _ _)))))
            refine wpQuiet_nil ?_
            rintro _ ⟨⟨dq, osq⟩, rfl⟩
            have hb2 := below_of_regrown (d := dq) (os := osq) hb hb.size
            generalize Go.Sort.grow (redrawn wr dq) osq = w2 at *
            clear hi d0 d1 e0 e1
            go_wp2
            go_ret
            exact ⟨ret_bool HE.out.symm, hb2⟩
          · have HE := Lib.hid (show lim1 ls k = true by unfold lim1; rw [HGD.out, HGM.out, hi]; simp; right; omega)
            have e1 : decide (n ≤ m) = false := by simp; omega
            go_wp2_with fail
            refine wp_region_quiet_below (by kernel_rfl) (by kernel_rfl) ?_
            repeat (go_big_quiet_step ((exact Calls.regrown_of (below_of_same (rin_any _ _ _ _)))))
            refine wpQuiet_nil ?_
            rintro _ ⟨⟨dq, osq⟩, rfl⟩
            have hb2 := below_of_regrown (d := dq) (os := osq) hb hb.size
            generalize Go.Sort.grow (redrawn wr dq) osq = w2 at *
            clear hi d0 d1 e0 e1
            go_wp2
            go_roundw
            case rel =>
              refine ⟨k + 1, by omega, by go_num, fun j hj => ?_, hb2⟩
              rcases Nat.lt_or_ge j k with h | h
              · exact HN.out j h
              · obtain rfl : j = k := by omega
                exact HE.out
            case measure => simp [intOf]; omega
      · have HE := Lib.hid (lim_bad hlt (show lim1 ls k = false by unfold lim1; rw [HGD.out, hi]; rfl))
        go_wp2_with fail
        refine wp_region_quiet_below (by kernel_rfl) (by kernel_rfl) ?_
        repeat (go_big_quiet_step ((exact Calls.regrown_of (below_of_same (rin_any _ _ _ _)))))
        refine wpQuiet_nil ?_
        rintro _ ⟨⟨dq, osq⟩, rfl⟩
        have hb2 := below_of_regrown (d := dq) (os := osq) hb hb.size
        generalize Go.Sort.grow (redrawn wr dq) osq = w2 at *
        clear hi d0
        go_wp2
        go_ret
        exact ⟨ret_bool HE.out.symm, hb2⟩
    · have HE := Lib.hid ((limF_lim1 ls).2 fun j hj => HN.out j (by omega))
      go_wp2
      go_ret
      exact ⟨ret_bool HE.out.symm, hb⟩
theorem seenB_snoc (l : List ByteArray) (x n : ByteArray) : seenB (l ++ [x]) n = (seenB l n || (x.data.toList == n.data.toList)) := by simp [seenB]
theorem seenB_true {ts : List Ten} {j k : Nat} {u : Ten} {n : ByteArray} (h : ts[j]? = some u) (hj : j < k) (he : u.name = n) : seenB ((ts.take k).map Ten.name) n = true := by
  rw [seenB_iff]
  subst he
  exact List.mem_map_of_mem (List.mem_of_getElem? (i := j) (by rw [List.getElem?_take_of_lt hj]; exact h))
theorem seenB_more {ts : List Ten} {j : Nat} {u : Ten} {n : ByteArray} (h : ts[j]? = some u) (hs : seenB ((ts.take j).map Ten.name) n = false) (he : u.name ≠ n) : seenB ((ts.take (j + 1)).map Ten.name) n = false := by
  rw [(tens_step h).2, seenB_snoc, hs]
  simp only [Bool.false_or, beq_eq_false_iff_ne]
  exact fun e => he (ba_ext e)
set_option maxRecDepth 100000 in
set_option maxHeartbeats 2000000 in
theorem rtenants_any (v : Value) (ts : List Ten) (w : World) (hT : TensAt w v ts) :
    Calls Tryz.prog 84 #[v] w fun e w' => e = .returned (.int .i64 (tensE ts)) ∧ Below w.heap.size w w' := by
  obtain ⟨a, cap, rfl, hlen, hcell⟩ := hT
  have HC := Lib.hid hcell; clear hcell
  by_cases h1 : ts.length < 1 ∨ 6 < ts.length
  · have H := Lib.hid (show tensE ts = 9 by unfold tensE; rw [if_pos h1])
    have HI := Lib.hid (show inB (ts.length : Nat) 1 6 = false by simp [inB]; omega)
    clear h1
    go_enter Tryz.func84, Tryz.ntmps84
    go_wp2_with fail
    refine (rin_any _ _ _ _).mono ?_
    rintro e w1 ⟨rfl, rfl⟩
    rw [HI.out]
    go_wp2
    go_ret
    exact ⟨ret_int H.out.symm, Below.refl _ _⟩
  · have H := Lib.hid (show tensE ts = tensF [] ts by unfold tensE; rw [if_neg h1])
    have HI := Lib.hid (show inB (ts.length : Nat) 1 6 = true by simp [inB]; omega)
    have h6 : ts.length ≤ 6 := by omega
    clear h1
    go_enter Tryz.func84, Tryz.ntmps84
    go_wp2_with fail
    refine (rin_any _ _ _ _).mono ?_
    rintro e w1 ⟨rfl, rfl⟩
    rw [HI.out]
    go_wp2
    go_loopw [3] (fun i wr => ∃ k : Nat, k ≤ ts.length ∧ i = .int .i64 k ∧ tensF ((ts.take k).map Ten.name) (ts.drop k) = tensE ts ∧ Below w.heap.size w wr)
      (fun i _ => ts.length - (intOf i).toNat)
    case atStart => exact ⟨0, Nat.zero_le _, rfl, by rw [H.out]; simp, Below.refl _ _⟩
    case round =>
      obtain ⟨k, hk, rfl, hf, hb⟩ := hrel
      have HF := Lib.hid hf; clear hf
      by_cases hlt : k < ts.length
      · obtain ⟨t, ht⟩ : ∃ t, ts[k]? = some t := ⟨_, List.getElem?_eq_getElem hlt⟩
        obtain ⟨hsz, b, off, rfl, c0, c1, c2⟩ := HC.out k t ht
        have HT := Lib.hid ht; clear ht
        have d0 := cell_below hb c0
        have d1 := cell_below hb c1
        have d2 := cell_below hb c2
        have C0 := Lib.hid c0
        clear c1 c2 c0
        go_wp2_with fail
        refine (rname_any _ _ hsz).mono ?_
        rintro e w2 ⟨rfl, hb2⟩
        have hstep := tens_step HT.out
        have hb3 : Below w.heap.size w w2 := hb.trans (hb2.mono hb.size)
        have e1 := cell_below hb2 d1
        have e2 := cell_below hb2 d2
        have E0 := Lib.hid (cell_below hb2 d0)
        clear d0 d1 d2
        by_cases hn : nameB t.name = false
        · have HE := Lib.hid (show tensE ts = 5 by rw [← HF.out, hstep.1, tensF, if_pos hn])
          rw [hn]
          clear hn hstep
          go_wp2
          go_ret
          exact ⟨ret_int HE.out.symm, hb3⟩
        · have hn' : nameB t.name = true := by simpa using hn
          rw [hn']
          rcases Bool.eq_false_or_eq_true (inB t.weight 1 16) with i1 | i1
          · rcases Bool.eq_false_or_eq_true (inB t.quota 1 256) with i2 | i2
            · have hgood : ¬ tenBad t = true := by simp [tenBad, inB] at i1 i2 ⊢; omega
              have HS := Lib.hid hstep
              have HN := Lib.hid hn
              have HG := Lib.hid hgood
              clear hn hn' hstep hgood
              go_wp2_with (go_at_call 85; refine (rin_any _ _ _ _).mono ?_; rintro e w' ⟨rfl, rfl⟩)
              go_loopw [4] (fun i wr2 => ∃ j : Nat, j ≤ k ∧ i = .int .i64 j ∧ seenB ((ts.take j).map Ten.name) t.name = false ∧ Below w.heap.size w wr2) (fun i _ => k - (intOf i).toNat)
              case atStart => exact ⟨0, Nat.zero_le _, rfl, rfl, hb3⟩
              case round =>
                obtain ⟨j, hj, rfl, hs, hb4⟩ := hrel
                have HSe := Lib.hid hs; clear hs
                by_cases hjk : j < k
                · obtain ⟨u, hu⟩ : ∃ u, ts[j]? = some u := ⟨_, List.getElem?_eq_getElem (by omega)⟩
                  obtain ⟨_, b', off', hbb, c3, _, _⟩ := HC.out j u hu
                  cases hbb
                  have k0 := cell_regrown (cell_below hb4 C0.out)
                  have k1 := cell_regrown (cell_below hb4 c3)
                  clear c3
                  have HU := Lib.hid hu
                  clear hu
                  by_cases he : u.name = t.name
                  · have HE := Lib.hid (show tensE ts = 8 by rw [← HF.out, HS.out.1, tensF, if_neg HN.out, if_neg HG.out, if_pos (seenB_true HU.out hjk he)])
                    have q := ba_list_self t.name
                    have he2 : u.name.toList = t.name.toList := by rw [he]
                    go_wp2_with fail
                    refine wp_region_quiet_below (by kernel_rfl) (by kernel_rfl) ?_
                    repeat (go_big_quiet_step (fail))
                    refine wpQuiet_nil ?_
                    rintro _ ⟨⟨dq, osq⟩, rfl⟩
                    have hb5 := below_of_regrown (d := dq) (os := osq) hb4 hb4.size
                    generalize Go.Sort.grow (redrawn wr dq) osq = w5 at *
                    clear k0 k1 he he2 q
                    go_wp2
                    go_ret
                    exact ⟨ret_int HE.out.symm, hb5⟩
                  · have HE := Lib.hid (seenB_more HU.out HSe.out he)
                    have q := ba_list_ne he
                    clear he
                    go_wp2_with fail
                    refine wp_region_quiet_below (by kernel_rfl) (by kernel_rfl) ?_
                    repeat (go_big_quiet_step (fail))
                    refine wpQuiet_nil ?_
                    rintro _ ⟨⟨dq, osq⟩, rfl⟩
                    have hb5 := below_of_regrown (d := dq) (os := osq) hb4 hb4.size
                    generalize Go.Sort.grow (redrawn wr dq) osq = w5 at *
                    clear k0 k1 q
                    go_wp2
                    go_roundw
                    case rel => exact ⟨j + 1, by omega, by go_num, HE.out, hb5⟩
                    case measure => simp [intOf]; omega
                · have hjk2 : j = k := by omega
                  subst hjk2
                  have HE := Lib.hid (show tensF ((ts.take (j + 1)).map Ten.name) (ts.drop (j + 1)) = tensE ts by rw [← HF.out, HS.out.1, tensF, if_neg HN.out, if_neg HG.out, if_neg (by rw [HSe.out]; simp), HS.out.2])
                  go_wp2
                  go_roundw
                  case rel => exact ⟨j + 1, by omega, by go_num, HE.out, hb4⟩
                  case measure => simp [intOf]; omega
            · have HE := Lib.hid (show tensE ts = 1 by rw [← HF.out, hstep.1, tensF, if_neg hn, if_pos (by simp [tenBad, inB] at i1 i2 ⊢; omega)])
              clear hn hn' hstep
              go_wp2_with (go_at_call 85; refine (rin_any _ _ _ _).mono ?_; rintro e w' ⟨rfl, rfl⟩)
              go_ret
              exact ⟨ret_int HE.out.symm, hb3⟩
          · have HE := Lib.hid (show tensE ts = 1 by rw [← HF.out, hstep.1, tensF, if_neg hn, if_pos (by simp [tenBad, inB] at i1 ⊢; omega)])
            clear hn hn' hstep
            go_wp2_with (go_at_call 85; refine (rin_any _ _ _ _).mono ?_; rintro e w' ⟨rfl, rfl⟩)
            go_ret
            exact ⟨ret_int HE.out.symm, hb3⟩
      · have hk2 : k = ts.length := by omega
        subst hk2
        have HE := Lib.hid (show tensE ts = 0 by rw [← HF.out, List.drop_length]; rfl)
        go_wp2
        go_ret
        exact ⟨ret_int HE.out.symm, hb⟩
set_option maxHeartbeats 1000000 in
theorem rcheck_tens (cs : Array Value) (tv lv : Value) (c : Cfg) (w : World) (hc : CfgCells cs tv lv c) (hC : CfgAt w tv lv c) (h0 : tensE c.ts ≠ 0) :
    Calls Tryz.prog 36 #[.agg cs] w fun e w' => e = .returned (.int .i64 (checkE c)) ∧ Below w.heap.size w w' := by
  obtain ⟨hT, hL⟩ := hC
  have f0 := hc.f0
  have HC := Lib.hid hc
  have HL := Lib.hid hL
  have HE := Lib.hid (show checkE c = tensE c.ts by unfold checkE; rw [if_pos h0])
  have HNE := Lib.hid (show (tensE c.ts != 0) = true by rw [bne_iff_ne]; exact h0)
  clear hc h0
  go_enter Tryz.func36, Tryz.ntmps36
  go_wp2_with fail
  refine (rtenants_any _ _ _ (hT.below ((Below.refl _ _).alloc (Nat.le_refl _) _))).mono ?_
  rintro e w1 ⟨rfl, hb⟩
  have hb1 : Below w.heap.size w w1 := ((Below.refl _ _).alloc (Nat.le_refl _) _).trans (hb.mono (by simp))
  have hne := HNE.out
  go_wp2
  go_ret
  exact ⟨ret_int HE.out.symm, hb1⟩
set_option maxHeartbeats 1000000 in
theorem rcheck_many (cs : Array Value) (tv lv : Value) (c : Cfg) (w : World) (hc : CfgCells cs tv lv c) (hC : CfgAt w tv lv c) (h0 : tensE c.ts = 0) (h3 : 3 < c.ls.length) :
    Calls Tryz.prog 36 #[.agg cs] w fun e w' => e = .returned (.int .i64 (checkE c)) ∧ Below w.heap.size w w' := by
  obtain ⟨hT, hL⟩ := hC
  have f0 := hc.f0
  have HC := Lib.hid hc
  have HL := Lib.hid hL
  have HE := Lib.hid (show checkE c = 9 by unfold checkE; rw [if_neg (by simp [h0]), if_pos h3])
  have H0 := Lib.hid h0
  obtain ⟨la, lcap, rfl, hlen, _⟩ := hL
  clear hc h0
  go_enter Tryz.func36, Tryz.ntmps36
  go_wp2_with fail
  refine (rtenants_any _ _ _ (hT.below ((Below.refl _ _).alloc (Nat.le_refl _) _))).mono ?_
  rintro e w1 ⟨rfl, hb⟩
  have hb1 : Below w.heap.size w w1 := ((Below.refl _ _).alloc (Nat.le_refl _) _).trans (hb.mono (by simp))
  rw [H0.out]
  have c1 := cell_below hb (cell_alloc_at (t := 26) HC.out.f1)
  go_wp2
  go_ret
  exact ⟨ret_int HE.out.symm, hb1⟩
set_option maxRecDepth 100000 in
set_option maxHeartbeats 2000000 in
theorem rcheck_end (cs : Array Value) (tv lv : Value) (c : Cfg) (w : World) (hc : CfgCells cs tv lv c) (hC : CfgAt w tv lv c) (h0 : tensE c.ts = 0) (h3 : ¬ 3 < c.ls.length) :
    Calls Tryz.prog 36 #[.agg cs] w fun e w' => e = .returned (.int .i64 (checkE c)) ∧ Below w.heap.size w w' := by
  obtain ⟨hT, hL⟩ := hC
  have f0 := hc.f0
  have HC := Lib.hid hc
  have HL := Lib.hid hL
  have HE := Lib.hid (show checkE c = if limF 0 c.ls = false ∨ (aOk c && bOk c && dOk c) = false then 1 else 0 by unfold checkE; rw [if_neg (by simp [h0]), if_neg h3])
  have H0 := Lib.hid h0
  obtain ⟨la, lcap, rfl, hlen, _⟩ := hL
  clear hc h0
  go_enter Tryz.func36, Tryz.ntmps36
  go_wp2_with fail
  refine (rtenants_any _ _ _ (hT.below ((Below.refl _ _).alloc (Nat.le_refl _) _))).mono ?_
  rintro e w1 ⟨rfl, hb⟩
  have hb1 : Below w.heap.size w w1 := ((Below.refl _ _).alloc (Nat.le_refl _) _).trans (hb.mono (by simp))
  rw [H0.out]
  have c1 := cell_below hb (cell_alloc_at (t := 26) HC.out.f1)
  go_upto_region 6 with fail
  go_cut [4] (fun s wx => s = .bool (aOk c) ∧ w1 = wx)
  case first =>
    have d2 := cell_below hb (cell_alloc_at (t := 26) HC.out.f2)
    have d3 := cell_below hb (cell_alloc_at (t := 26) HC.out.f3)
    have d4 := cell_below hb (cell_alloc_at (t := 26) HC.out.f4)
    have d5 := cell_below hb (cell_alloc_at (t := 26) HC.out.f5)
    have d6 := cell_below hb (cell_alloc_at (t := 26) HC.out.f6)
    have d7 := cell_below hb (cell_alloc_at (t := 26) HC.out.f7)
    rcases Bool.eq_false_or_eq_true (inB c.q 1 64) with g0 | g0
    · rcases Bool.eq_false_or_eq_true (inB c.cost 1 64) with g1 | g1
      · rcases Bool.eq_false_or_eq_true (inB c.cap 1 32) with g2 | g2
        · rcases Bool.eq_false_or_eq_true (inB c.invs 1 8) with g3 | g3
          · rcases Bool.eq_false_or_eq_true (inB c.weight 1 16) with g4 | g4
            · rcases Bool.eq_false_or_eq_true (inB c.pools 1 8) with g5 | g5
              · have HB := Lib.hid (show aOk c = true by simp [aOk, g0, g1, g2, g3, g4, g5])
                go_wp2_with (go_at_call 85; refine (rin_any _ _ _ _).mono ?_; rintro e w' ⟨rfl, rfl⟩)
                go_meet
                exact ⟨by rw [HB.out], rfl⟩
              · have HB := Lib.hid (show aOk c = false by simp [aOk, g5])
                go_wp2_with (go_at_call 85; refine (rin_any _ _ _ _).mono ?_; rintro e w' ⟨rfl, rfl⟩)
                go_meet
                exact ⟨by rw [HB.out], rfl⟩
            · have HB := Lib.hid (show aOk c = false by simp [aOk, g4])
              go_wp2_with (go_at_call 85; refine (rin_any _ _ _ _).mono ?_; rintro e w' ⟨rfl, rfl⟩)
              go_meet
              exact ⟨by rw [HB.out], rfl⟩
          · have HB := Lib.hid (show aOk c = false by simp [aOk, g3])
            go_wp2_with (go_at_call 85; refine (rin_any _ _ _ _).mono ?_; rintro e w' ⟨rfl, rfl⟩)
            go_meet
            exact ⟨by rw [HB.out], rfl⟩
        · have HB := Lib.hid (show aOk c = false by simp [aOk, g2])
          go_wp2_with (go_at_call 85; refine (rin_any _ _ _ _).mono ?_; rintro e w' ⟨rfl, rfl⟩)
          go_meet
          exact ⟨by rw [HB.out], rfl⟩
      · have HB := Lib.hid (show aOk c = false by simp [aOk, g1])
        go_wp2_with (go_at_call 85; refine (rin_any _ _ _ _).mono ?_; rintro e w' ⟨rfl, rfl⟩)
        go_meet
        exact ⟨by rw [HB.out], rfl⟩
    · have HB := Lib.hid (show aOk c = false by simp [aOk, g0])
      go_wp2_with (go_at_call 85; refine (rin_any _ _ _ _).mono ?_; rintro e w' ⟨rfl, rfl⟩)
      go_meet
      exact ⟨by rw [HB.out], rfl⟩
  case rest =>
  obtain ⟨rfl, rfl⟩ := hcut
  go_upto_region 7 with fail
  go_cut [5] (fun s wx => s = .bool (bOk c) ∧ w1 = wx)
  case first =>
    have d8 := cell_below hb (cell_alloc_at (t := 26) HC.out.f8)
    have d9 := cell_below hb (cell_alloc_at (t := 26) HC.out.f9)
    have d10 := cell_below hb (cell_alloc_at (t := 26) HC.out.f10)
    have d11 := cell_below hb (cell_alloc_at (t := 26) HC.out.f11)
    have d12 := cell_below hb (cell_alloc_at (t := 26) HC.out.f12)
    rcases Bool.eq_false_or_eq_true (inB c.retries 0 5) with g0 | g0
    · rcases Bool.eq_false_or_eq_true (inB c.preempts 0 5) with g1 | g1
      · rcases Bool.eq_false_or_eq_true (inB c.base 1 1048576) with g2 | g2
        · rcases Bool.eq_false_or_eq_true (inB c.most c.base 1048576) with g3 | g3
          · rcases Bool.eq_false_or_eq_true (inB c.lease 1 1048576) with g4 | g4
            · have HB := Lib.hid (show bOk c = true by simp [bOk, g0, g1, g2, g3, g4])
              go_wp2_with (go_at_call 85; refine (rin_any _ _ _ _).mono ?_; rintro e w' ⟨rfl, rfl⟩)
              go_meet
              exact ⟨by rw [HB.out], rfl⟩
            · have HB := Lib.hid (show bOk c = false by simp [bOk, g4])
              go_wp2_with (go_at_call 85; refine (rin_any _ _ _ _).mono ?_; rintro e w' ⟨rfl, rfl⟩)
              go_meet
              exact ⟨by rw [HB.out], rfl⟩
          · have HB := Lib.hid (show bOk c = false by simp [bOk, g3])
            go_wp2_with (go_at_call 85; refine (rin_any _ _ _ _).mono ?_; rintro e w' ⟨rfl, rfl⟩)
            go_meet
            exact ⟨by rw [HB.out], rfl⟩
        · have HB := Lib.hid (show bOk c = false by simp [bOk, g2])
          go_wp2_with (go_at_call 85; refine (rin_any _ _ _ _).mono ?_; rintro e w' ⟨rfl, rfl⟩)
          go_meet
          exact ⟨by rw [HB.out], rfl⟩
      · have HB := Lib.hid (show bOk c = false by simp [bOk, g1])
        go_wp2_with (go_at_call 85; refine (rin_any _ _ _ _).mono ?_; rintro e w' ⟨rfl, rfl⟩)
        go_meet
        exact ⟨by rw [HB.out], rfl⟩
    · have HB := Lib.hid (show bOk c = false by simp [bOk, g0])
      go_wp2_with (go_at_call 85; refine (rin_any _ _ _ _).mono ?_; rintro e w' ⟨rfl, rfl⟩)
      go_meet
      exact ⟨by rw [HB.out], rfl⟩
  case rest =>
  obtain ⟨rfl, rfl⟩ := hcut
  go_upto_region 8 with fail
  go_cut [6] (fun s wx => s = .bool (dOk c) ∧ w1 = wx)
  case first =>
    have d13 := cell_below hb (cell_alloc_at (t := 26) HC.out.f13)
    have d14 := cell_below hb (cell_alloc_at (t := 26) HC.out.f14)
    have d15 := cell_below hb (cell_alloc_at (t := 26) HC.out.f15)
    have d16 := cell_below hb (cell_alloc_at (t := 26) HC.out.f16)
    have d17 := cell_below hb (cell_alloc_at (t := 26) HC.out.f17)
    have d18 := cell_below hb (cell_alloc_at (t := 26) HC.out.f18)
    rcases Bool.eq_false_or_eq_true (inB c.dead 1 32) with g0 | g0
    · rcases Bool.eq_false_or_eq_true (inB c.keep 1 64) with g1 | g1
      · rcases Bool.eq_false_or_eq_true (inB c.keys 1 32) with g2 | g2
        · rcases Bool.eq_false_or_eq_true (inB c.percent 1 100) with g3 | g3
          · rcases Bool.eq_false_or_eq_true (inB c.workers 1 16) with g4 | g4
            · rcases Bool.eq_false_or_eq_true (inB c.watch 0 16) with g5 | g5
              · have HB := Lib.hid (show dOk c = true by simp [dOk, g0, g1, g2, g3, g4, g5])
                go_wp2_with (go_at_call 85; refine (rin_any _ _ _ _).mono ?_; rintro e w' ⟨rfl, rfl⟩)
                go_meet
                exact ⟨by rw [HB.out], rfl⟩
              · have HB := Lib.hid (show dOk c = false by simp [dOk, g5])
                go_wp2_with (go_at_call 85; refine (rin_any _ _ _ _).mono ?_; rintro e w' ⟨rfl, rfl⟩)
                go_meet
                exact ⟨by rw [HB.out], rfl⟩
            · have HB := Lib.hid (show dOk c = false by simp [dOk, g4])
              go_wp2_with (go_at_call 85; refine (rin_any _ _ _ _).mono ?_; rintro e w' ⟨rfl, rfl⟩)
              go_meet
              exact ⟨by rw [HB.out], rfl⟩
          · have HB := Lib.hid (show dOk c = false by simp [dOk, g3])
            go_wp2_with (go_at_call 85; refine (rin_any _ _ _ _).mono ?_; rintro e w' ⟨rfl, rfl⟩)
            go_meet
            exact ⟨by rw [HB.out], rfl⟩
        · have HB := Lib.hid (show dOk c = false by simp [dOk, g2])
          go_wp2_with (go_at_call 85; refine (rin_any _ _ _ _).mono ?_; rintro e w' ⟨rfl, rfl⟩)
          go_meet
          exact ⟨by rw [HB.out], rfl⟩
      · have HB := Lib.hid (show dOk c = false by simp [dOk, g1])
        go_wp2_with (go_at_call 85; refine (rin_any _ _ _ _).mono ?_; rintro e w' ⟨rfl, rfl⟩)
        go_meet
        exact ⟨by rw [HB.out], rfl⟩
    · have HB := Lib.hid (show dOk c = false by simp [dOk, g0])
      go_wp2_with (go_at_call 85; refine (rin_any _ _ _ _).mono ?_; rintro e w' ⟨rfl, rfl⟩)
      go_meet
      exact ⟨by rw [HB.out], rfl⟩
  case rest =>
  obtain ⟨rfl, rfl⟩ := hcut
  go_wp2_with fail
  refine (rises_any _ _ _ (HL.out.below hb1)).mono ?_
  rintro e w2 ⟨rfl, hb2⟩
  have hb3 : Below w.heap.size w w2 := hb1.trans (hb2.mono hb1.size)
  rcases Bool.eq_false_or_eq_true (limF 0 c.ls) with hl | hl
  · rcases Bool.eq_false_or_eq_true (aOk c) with ha | ha
    · rcases Bool.eq_false_or_eq_true (bOk c) with hb' | hb'
      · rcases Bool.eq_false_or_eq_true (dOk c) with hd | hd
        · have HX := Lib.hid (show checkE c = 0 by rw [HE.out, if_neg (by simp [hl, ha, hb', hd])])
          go_wp2
          go_ret
          exact ⟨ret_int HX.out.symm, hb3⟩
        · have HX := Lib.hid (show checkE c = 1 by rw [HE.out, if_pos (by simp [hd])])
          go_wp2
          go_ret
          exact ⟨ret_int HX.out.symm, hb3⟩
      · have HX := Lib.hid (show checkE c = 1 by rw [HE.out, if_pos (by simp [hb'])])
        go_wp2
        go_ret
        exact ⟨ret_int HX.out.symm, hb3⟩
    · have HX := Lib.hid (show checkE c = 1 by rw [HE.out, if_pos (by simp [ha])])
      go_wp2
      go_ret
      exact ⟨ret_int HX.out.symm, hb3⟩
  · have HX := Lib.hid (show checkE c = 1 by rw [HE.out, if_pos (by simp [hl])])
    go_wp2
    go_ret
    exact ⟨ret_int HX.out.symm, hb3⟩
theorem rcheck_any (cs : Array Value) (tv lv : Value) (c : Cfg) (w : World) (hc : CfgCells cs tv lv c) (hC : CfgAt w tv lv c) :
    Calls Tryz.prog 36 #[.agg cs] w fun e w' => e = .returned (.int .i64 (checkE c)) ∧ Below w.heap.size w w' := by
  by_cases h0 : tensE c.ts = 0
  · by_cases h3 : 3 < c.ls.length
    · exact rcheck_many cs tv lv c w hc hC h0 h3
    · exact rcheck_end cs tv lv c w hc hC h0 h3
  · exact rcheck_tens cs tv lv c w hc hC h0
end Go.Proofs.YtaaomhjgolmakaaGreatDoor
namespace Go.Proofs.YtaaomhjgolmakaaGreatDoor
open Go.RowKit
end Go.Proofs.YtaaomhjgolmakaaGreatDoor
namespace Go.Proofs.YtaaomhjgolmakaaGreatDoor
open Go.RowKit
theorem cfg_sz {cs : Array Value} {tv lv : Value} {c : Cfg} (hc : CfgCells cs tv lv c) : (Tryz.prog.info? 26).map (·.size) = some cs.size := by rw [hc.size]; exact cfg_info
end Go.Proofs.YtaaomhjgolmakaaGreatDoor
namespace Go.Proofs.YtaaomhjgolmakaaGreatDoor
open Go.RowKit
set_option maxHeartbeats 400000 in
theorem rright_any (cs : Array Value) (tv lv : Value) (c : Cfg) (w : World) (hc : CfgCells cs tv lv c) (hC : CfgAt w tv lv c) :
    Calls Tryz.prog 11 #[.agg cs] w fun e w' => e = .returned (.bool (checkE c == 0)) ∧ Below w.heap.size w w' := by
  have HC := Lib.hid hc; clear hc
  have HCA := Lib.hid hC; clear hC
  go_enter Tryz.func11, Tryz.ntmps11
  go_wp2_with (refine wpList_load_agg 26 (heap_alloc_new w _) Tryz.underlying26 rfl (cfg_sz HC.out) rfl _ rfl rfl ?_)
  refine (rcheck_any _ _ _ c _ HC.out (HCA.out.below box_below)).mono ?_
  rintro e w1 ⟨rfl, hb⟩
  go_wp2
  go_ret
  exact ⟨rfl, box_below2 hb⟩
end Go.Proofs.YtaaomhjgolmakaaGreatDoor
