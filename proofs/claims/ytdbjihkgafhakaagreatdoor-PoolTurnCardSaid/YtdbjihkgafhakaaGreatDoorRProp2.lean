/-
  billetref04.Find and Parse: the walks.
-/
import Derived.Test.YtdbjihkgafhakaaGreatDoorRProp1
import Derived.Test.YtdbjihkgafhakaaGreatDoorRName
import Derived.Deep.RegionHeld3
import Derived.Deep.AppendLies
namespace Go.Proofs.YtdbjihkgafhakaaGreatDoor
open Go.RowKit

def findV (l : List Pr) (k : ByteArray) : ByteArray := match l.find? (keyB k) with | some p => p.2 | none => ⟨#[]⟩
theorem find_step {l : List Pr} {k : Nat} {p : Pr} {key : ByteArray} (h : l[k]? = some p) : (l.drop k).find? (keyB key) = if keyB key p = true then some p else (l.drop (k + 1)).find? (keyB key) := by
  obtain ⟨hk, rfl⟩ := List.getElem?_eq_some_iff.1 h
  rw [List.drop_eq_getElem_cons hk, List.find?_cons]
  cases keyB key l[k] <;> simp
theorem find_some {l : List Pr} {key : ByteArray} {p : Pr} (h : l.find? (keyB key) = some p) : findV l key = p.2 ∧ hasKey l key = true := by
  refine ⟨by unfold findV; rw [h], ?_⟩
  rw [hasKey_any, List.any_eq_true]
  exact ⟨p, List.mem_of_find?_eq_some h, List.find?_some h⟩
theorem find_none {l : List Pr} {key : ByteArray} (h : l.find? (keyB key) = none) : findV l key = ⟨#[]⟩ ∧ hasKey l key = false := by
  refine ⟨by unfold findV; rw [h], ?_⟩
  rw [hasKey_any, List.any_eq_false]
  intro p hp
  simpa using List.find?_eq_none.1 h p hp

set_option maxRecDepth 100000 in
set_option maxHeartbeats 1000000 in
/-- THE WALK: billetref04.Find. -/
theorem rfind_any (v : Value) (l : List Pr) (key : ByteArray) (w : World) (hA : PairsAt w v l) :
    Calls Tryz.prog 39 #[v, .string key] w fun e w' => e = .returned (.tuple #[.string (findV l key), .bool (hasKey l key)]) ∧ w = w' := by
  obtain ⟨a, cap, rfl, hcap, hmax, hcell⟩ := hA
  have HC := Lib.hid hcell
  have hmax' : l.length ≤ 9223372036854775807 := by unfold maxLen at hmax; omega
  clear hcell
  go_enter Tryz.func39, Tryz.ntmps39
  go_wp2
  go_loop [6] (fun i => ∃ k : Nat, i = .int .i64 k ∧ k ≤ l.length ∧ (l.drop k).find? (keyB key) = l.find? (keyB key)) (fun i => l.length - (intOf i).toNat)
  case atStart => exact ⟨0, rfl, Nat.zero_le _, rfl⟩
  case round =>
    obtain ⟨k, rfl, hk, hf⟩ := hrel
    have HF := Lib.hid hf
    clear hf
    by_cases hlt : k < l.length
    · obtain ⟨p, hp⟩ : ∃ p, l[k]? = some p := ⟨_, List.getElem?_eq_getElem hlt⟩
      obtain ⟨g, rfl, hgl, c0⟩ := HC.out (k * 2) (.string p.1) (by have := flatP_get 0 hp (by omega); simpa [encP] using this)
      obtain ⟨g', hg', _, c1⟩ := HC.out (k * 2 + 1) (.string p.2) (by have := flatP_get 1 hp (by omega); simpa [encP] using this)
      cases hg'
      rcases hq : keyB key p with _ | _
      · have HN := Lib.hid (show (l.drop (k + 1)).find? (keyB key) = l.find? (keyB key) by rw [← HF.out, find_step hp, if_neg (by rw [hq]; decide)])
        have hb : (p.1.toList == key.toList) = false := by rw [keyB_list]; exact hq
        clear hp hq
        go_wp2
        go_round
        case rel => exact ⟨k + 1, by go_num, by omega, HN.out⟩
        case measure => simp [intOf]; omega
      · have HN := Lib.hid (find_some (show l.find? (keyB key) = some p by rw [← HF.out, find_step hp, if_pos hq]))
        have hb : (p.1.toList == key.toList) = true := by rw [keyB_list]; exact hq
        clear hp hq
        go_wp2
        go_ret2
        rw [HN.out.1, HN.out.2]
        exact ⟨rfl, rfl⟩
    · have HN := Lib.hid (find_none (l := l) (key := key) (by rw [← HF.out, List.drop_of_length_le (by omega)]; rfl))
      go_wp2
      go_ret2
      rw [HN.out.1, HN.out.2]
      exact ⟨rfl, rfl⟩

theorem oneE_len {x : List UInt8} (h : (splitL 61 x).length ≠ 2) : oneE x = 3 := by
  unfold oneE
  split
  · rename_i heq; rw [heq] at h; simp at h
  · rfl
theorem oneE_kv {x k v : List UInt8} (h : splitL 61 x = [k, v]) : oneE x = if pairOk k v = true then 0 else 5 := by
  unfold oneE
  rw [h]
theorem oneV_kv {x k v : List UInt8} (h : splitL 61 x = [k, v]) : oneV x = (ba k, ba v) := by
  unfold oneV
  rw [h]
def RPRel (s : ByteArray) (w : World) (pv v i : Value) (wr : World) : Prop := ∃ (k : Nat) (acc : List Pr), i = .int .i64 k ∧ k ≤ (piecesOf s).length ∧ acc.length = k ∧ parseF acc ((piecesOf s).drop k) = parseF [] (piecesOf s) ∧
  wr.ownsRow w.heap.size 89 2 v k (flatP acc) ∧ wr.ownsRow w.heap.size 9 1 pv (piecesOf s).length ((piecesOf s).map fun p => Value.string (ba p)) ∧ Below w.heap.size w wr

set_option maxRecDepth 100000 in
set_option maxHeartbeats 2000000 in
/-- THE WALK: billetref04.Parse. -/
theorem rparse_few (s : ByteArray) (w : World) (hs : s.size ≤ 1048576) (h0 : s.size ≠ 0) (h6 : ¬ 6 < (piecesOf s).length) :
    Calls Tryz.prog 38 #[.string s] w (GivesPairs (parseP s) w) := by
  have HP := Lib.hid (parseP_few h0 h6)
  have hne : (s.toList == []) = false := by rw [beq_eq_false_iff_ne, ByteArray.toList_eq]; intro e; apply h0; rw [← show s.data.toList.length = s.size by simp, e]; rfl
  have HM := Lib.hid (fun x hx => splitL_mem_le 44 s.data.toList x hx)
  have hsl : s.data.toList.length = s.size := by simp
  have h6' : (piecesOf s).length ≤ 6 := by omega
  clear h0 h6
  go_enter Tryz.func38, Tryz.ntmps38
  go_wp2_with fail
  refine (rsplit_any s 44 _ rfl _ hs).mono ?_
  rintro e w1 ⟨pv, rfl, hpv, hb1⟩
  change w1.ownsRow _ _ _ pv (piecesOf s).length ((piecesOf s).map _) at hpv
  have HB1 := Lib.hid (box_below2 hb1)
  have HP1 := Lib.hid (own_base hpv (show w.heap.size ≤ _ by simp))
  have HO1 := Lib.hid (own_below (own_empty (w := w) (b := w.heap.size) (size := 2) (t := 89) (Nat.le_refl _)) hb1)
  obtain ⟨pa, pcap, rfl, hpc, hpm, -, -⟩ := own_cells hpv
  clear hpv hb1
  go_wp2_with fail
  go_loopw [4, 6] (fun v i wr => RPRel s w (.slice pa (piecesOf s).length pcap) v i wr) (fun _ i _ => (piecesOf s).length - (intOf i).toNat)
  case atStart => exact ⟨0, [], rfl, Nat.zero_le _, rfl, rfl, HO1.out, HP1.out, HB1.out⟩
  case round =>
    obtain ⟨k, acc, rfl, hk, hacc, hpf, hown, hpv, hb⟩ := hrel
    have HA := Lib.hid hacc
    have HF := Lib.hid hpf
    have HO := Lib.hid hown
    have HV := Lib.hid hpv
    have HB := Lib.hid hb
    have hszw := hb.size
    obtain ⟨_, _, hpe, -, -, -, hpcell⟩ := own_cells hpv
    cases hpe
    have HPC := Lib.hid hpcell
    obtain ⟨a, cap, rfl, hcap, hmax, hlen, hcell⟩ := own_cells hown
    clear hacc hpf hown hpv hb hcell hlen HP1 HO1 HB1 hpcell
    by_cases hlt : k < (piecesOf s).length
    · obtain ⟨x, hx⟩ : ∃ x, (piecesOf s)[k]? = some x := ⟨_, List.getElem?_eq_getElem hlt⟩
      obtain ⟨pg, rfl, -, -, hc, -⟩ := HPC.out k (.string (ba x)) (by rw [List.getElem?_map, hx]; rfl)
      have hxl : (ba x).size ≤ 1048576 := by rw [ba_size]; have := HM.out x (List.mem_of_getElem? hx); omega
      have HX := Lib.hid hx
      clear hx
      go_wp2_with fail
      refine (rsplit_any (ba x) 61 _ rfl _ hxl).mono ?_
      rintro e w2 ⟨kv, rfl, hkv, hb2⟩
      rw [ba_toList] at hkv
      have HB2 := Lib.hid hb2
      have hsz2 := hb2.size
      have HKV := Lib.hid hkv
      obtain ⟨ka, kcap, rfl, hkc, hkm, -, hkcell⟩ := own_cells hkv
      have HKC := Lib.hid hkcell
      clear hb2 hkv hkcell
      by_cases hl2 : (splitL 61 x).length = 2
      · obtain ⟨q0, q1, hq⟩ : ∃ q0 q1, splitL 61 x = [q0, q1] := by
          match h : splitL 61 x, hl2 with
          | [q0, q1], _ => exact ⟨q0, q1, rfl⟩
        have hq0l : q0.length ≤ x.length := splitL_mem_le 61 x q0 (by rw [hq]; simp)
        have hq1l : q1.length ≤ x.length := splitL_mem_le 61 x q1 (by rw [hq]; simp)
        rw [ba_size] at hxl
        have hs0 : (ba q0).size ≤ 140737488351232 := by rw [ba_size]; omega
        have hs1 : (ba q1).size ≤ 140737488351232 := by rw [ba_size]; omega
        obtain ⟨kg, rfl, hkg, hkgl, c0, -⟩ := HKC.out 0 (.string (ba q0)) (by rw [hq]; rfl)
        obtain ⟨kg', hkg', -, -, c1, -⟩ := HKC.out 1 (.string (ba q1)) (by rw [hq]; rfl)
        cases hkg'
        have HQ := Lib.hid hq
        rw [hl2]
        rw [hl2] at hkc
        clear hq hl2
        go_wp2_with fail
        refine (rname_any (ba q0) _ hs0).mono ?_
        rintro e w3 ⟨rfl, hb3⟩
        have d0 := cell_below hb3 c0
        have d1 := cell_below hb3 c1
        have HB3 := Lib.hid (HB2.out.trans (hb3.mono hsz2))
        have HW3 := Lib.hid hb3
        have hsz3 : w2.heap.size ≤ w3.heap.size := hb3.size
        clear hb3 c0 c1
        rcases hk0 : nameB (ba q0) with _ | _
        · have HN := Lib.hid (show parseP s = ([], 5) by
            have he : oneE x = 5 := by rw [oneE_kv HQ.out, if_neg]; unfold pairOk; simp [hk0]
            rw [HP.out, ← HF.out, parseF_step0 HX.out, parseF, if_pos (by rw [he]; decide), he])
          clear hk0
          go_wp2
          go_ret2
          exact gives_none HN.out (HB.out.trans (HB3.out.mono hszw))
        · by_cases hst : q1 = [42]
          · subst hst
            have HE := Lib.hid (show oneE x = 0 by rw [oneE_kv HQ.out, if_pos]; unfold pairOk; simp [hk0])
            have q42 : ((ba [42]).toList == [42]) = true := by rw [ba_toList2]; rfl
            clear hk0
            have HQV := Lib.hid (oneV_kv HQ.out)
            have HPA := Lib.hid (show PairsAt w3 (.slice a k cap) acc from pairsAt_own (by rw [HA.out]; exact own_below HO.out HB3.out))
            go_wp2_with fail
            refine (rfind_any (.slice a k cap) acc (ba q0) _ HPA.out).mono ?_
            rintro e w5 ⟨rfl, rfl⟩
            rcases hh : hasKey acc (ba q0) with _ | _
            · have HF2 := Lib.hid (show parseF (acc ++ [(ba q0, ba [42])]) ((piecesOf s).drop (k + 1)) = parseF [] (piecesOf s) by
                rw [← HF.out, parseF_step0 HX.out, parseF, if_neg (by rw [HE.out]; decide), HQV.out, if_neg (by rw [hh]; decide)])
              have HO5 := Lib.hid (own_below HO.out HB3.out)
              have HV5 := Lib.hid (own_below HV.out HB3.out)
              have hszB := HB3.out.size
              clear hh
              have HK5 := Lib.hid (own_below HKV.out (HW3.out))
              have hak : (Value.slice a k cap).ownBlock ≠ some kg := by
                rcases own_apart HO5.out HK5.out (by decide) with h | h
                · rw [h]; intro e; cases e
                · exact h
              obtain ⟨i0, hi0, hz0, hz1, hz2⟩ := info_parts pair_info
              have lk : kg < w3.heap.size := Nat.lt_of_lt_of_le hkgl HW3.out.size
              go_wp2_with fail
              go_region_held3 (fun w' => w'.cell? ⟨kg, 0, none⟩ = some (.string (ba q0)) ∧ w'.cell? ⟨kg, 1, none⟩ = some (.string (ba [42])))
                (first
                  | go_keep
                  | (go_split_ands
                     refine ⟨?_, ?_⟩
                     · (rw [hgrow.cell_far _ (by simp; omega) (Ne.symm hak)]; assumption)
                     · (rw [hgrow.cell_far _ (by simp; omega) (Ne.symm hak)]; assumption)))
                ((refine step_append_lies _ (by rfl) _ _ _ (by rfl) w.heap.size 89 i0 _ 2 32 Tryz.underlying83 hi0 hz0 hz1 hz2 rfl (by omega) (Value.slice a k cap) k (flatP acc) (by rfl) ((HO5.out.alloc _).drew)
                    ⟨w3.heap.size, 0, none⟩ 1 1 [.string (ba q0), .string (ba [42])] (by rfl) (by rfl) (World.news_of_block (cs := #[.string (ba q0), .string (ba [42])]) (t := 89) (fr := (0, 0)) (heap_alloc_new w3 _)) (by simp [Value.oneCell'])
                    (by omega) (by unfold maxLen; omega) (by omega) (by simp; omega) (w3.heap.size + 1) (by simp) ?_; intro gg gcap w9 hown9 hgrow hat hlt9))
              have HO9 := Lib.hid (show w9.ownsRow w.heap.size 89 2 (.slice (some ⟨gg, 0, none⟩) (k + 1) gcap) (k + 1) (flatP (acc ++ [(ba q0, ba [42])])) by rw [flatP_snoc]; exact hown9)
              have HV9 := Lib.hid (World.ownsRow.kept ((HV5.out.alloc _).drew) hgrow (own_apart HV5.out HO5.out (by decide)))
              have HB9 := Lib.hid (show Below w.heap.size w w9 from (((HB.out.trans (HB3.out.mono hszw)).alloc (by omega) _).drew).grown hgrow (by simp; omega) (fun j hj => own_block HO5.out j hj))
              clear hown9 hgrow hat hlt9
              go_wp2
              go_roundw
              case rel => exact ⟨k + 1, acc ++ [(ba q0, ba [42])], by go_num, by omega, by simp [HA.out], HF2.out, HO9.out, HV9.out, HB9.out⟩
              case measure => simp [intOf]; omega
            · have HN := Lib.hid (show parseP s = ([], 8) by
                rw [HP.out, ← HF.out, parseF_step0 HX.out, parseF, if_neg (by rw [HE.out]; decide), if_pos (by rw [HQV.out]; exact hh)])
              clear hh
              go_wp2
              go_ret2
              exact gives_none HN.out (HB.out.trans (HB3.out.mono hszw))
          · have q42 : ((ba q1).toList == [42]) = false := by rw [ba_toList2]; exact beq_eq_false_iff_ne.2 hst
            rcases hk1 : nameB (ba q1) with _ | _
            · have HN := Lib.hid (show parseP s = ([], 5) by
                have he : oneE x = 5 := by rw [oneE_kv HQ.out, if_neg]; unfold pairOk; simp [hst, hk1]
                rw [HP.out, ← HF.out, parseF_step0 HX.out, parseF, if_pos (by rw [he]; decide), he])
              have HK1 := Lib.hid hk1
              clear hk0 hk1 hst
              go_wp2_with fail
              refine (rname_any (ba q1) _ hs1).mono ?_
              rintro e w4 ⟨rfl, hb4⟩
              rw [HK1.out]
              have HB4 := Lib.hid (HB3.out.trans (hb4.mono (Nat.le_trans hsz2 hsz3)))
              clear hb4
              go_wp2
              go_ret2
              exact gives_none HN.out (HB.out.trans (HB4.out.mono hszw))
            · have HE := Lib.hid (show oneE x = 0 by rw [oneE_kv HQ.out, if_pos]; unfold pairOk; simp [hk0, hk1])
              have HK1 := Lib.hid hk1
              clear hk0 hk1 hst
              go_wp2_with fail
              refine (rname_any (ba q1) _ hs1).mono ?_
              rintro e w4 ⟨rfl, hb4⟩
              rw [HK1.out]
              have d0' := cell_below hb4 d0
              have d1' := cell_below hb4 d1
              have HB4 := Lib.hid (HB3.out.trans (hb4.mono (Nat.le_trans hsz2 hsz3)))
              have HW4 := Lib.hid (HW3.out.trans (hb4.mono hsz3))
              clear hb4 d0 d1
              have HQV := Lib.hid (oneV_kv HQ.out)
              have HPA := Lib.hid (show PairsAt w4 (.slice a k cap) acc from pairsAt_own (by rw [HA.out]; exact own_below HO.out HB4.out))
              go_wp2_with fail
              refine (rfind_any (.slice a k cap) acc (ba q0) _ HPA.out).mono ?_
              rintro e w5 ⟨rfl, rfl⟩
              rcases hh : hasKey acc (ba q0) with _ | _
              · have HF2 := Lib.hid (show parseF (acc ++ [(ba q0, ba q1)]) ((piecesOf s).drop (k + 1)) = parseF [] (piecesOf s) by
                  rw [← HF.out, parseF_step0 HX.out, parseF, if_neg (by rw [HE.out]; decide), HQV.out, if_neg (by rw [hh]; decide)])
                have HO5 := Lib.hid (own_below HO.out HB4.out)
                have HV5 := Lib.hid (own_below HV.out HB4.out)
                have hszB := HB4.out.size
                clear hh
                have HK5 := Lib.hid (own_below HKV.out (HW4.out))
                have hak : (Value.slice a k cap).ownBlock ≠ some kg := by
                  rcases own_apart HO5.out HK5.out (by decide) with h | h
                  · rw [h]; intro e; cases e
                  · exact h
                obtain ⟨i0, hi0, hz0, hz1, hz2⟩ := info_parts pair_info
                have lk : kg < w4.heap.size := Nat.lt_of_lt_of_le hkgl HW4.out.size
                go_wp2_with fail
                go_region_held3 (fun w' => w'.cell? ⟨kg, 0, none⟩ = some (.string (ba q0)) ∧ w'.cell? ⟨kg, 1, none⟩ = some (.string (ba q1)))
                  (first
                    | go_keep
                    | (go_split_ands
                       refine ⟨?_, ?_⟩
                       · (rw [hgrow.cell_far _ (by simp; omega) (Ne.symm hak)]; assumption)
                       · (rw [hgrow.cell_far _ (by simp; omega) (Ne.symm hak)]; assumption)))
                  ((refine step_append_lies _ (by rfl) _ _ _ (by rfl) w.heap.size 89 i0 _ 2 32 Tryz.underlying83 hi0 hz0 hz1 hz2 rfl (by omega) (Value.slice a k cap) k (flatP acc) (by rfl) ((HO5.out.alloc _).drew)
                      ⟨w4.heap.size, 0, none⟩ 1 1 [.string (ba q0), .string (ba q1)] (by rfl) (by rfl) (World.news_of_block (cs := #[.string (ba q0), .string (ba q1)]) (t := 89) (fr := (0, 0)) (heap_alloc_new w4 _)) (by simp [Value.oneCell'])
                      (by omega) (by unfold maxLen; omega) (by omega) (by simp; omega) (w4.heap.size + 1) (by simp) ?_; intro gg gcap w9 hown9 hgrow hat hlt9))
                have HO9 := Lib.hid (show w9.ownsRow w.heap.size 89 2 (.slice (some ⟨gg, 0, none⟩) (k + 1) gcap) (k + 1) (flatP (acc ++ [(ba q0, ba q1)])) by rw [flatP_snoc]; exact hown9)
                have HV9 := Lib.hid (World.ownsRow.kept ((HV5.out.alloc _).drew) hgrow (own_apart HV5.out HO5.out (by decide)))
                have HB9 := Lib.hid (show Below w.heap.size w w9 from (((HB.out.trans (HB4.out.mono hszw)).alloc (by omega) _).drew).grown hgrow (by simp; omega) (fun j hj => own_block HO5.out j hj))
                clear hown9 hgrow hat hlt9
                go_wp2
                go_roundw
                case rel => exact ⟨k + 1, acc ++ [(ba q0, ba q1)], by go_num, by omega, by simp [HA.out], HF2.out, HO9.out, HV9.out, HB9.out⟩
                case measure => simp [intOf]; omega
              · have HN := Lib.hid (show parseP s = ([], 8) by
                  rw [HP.out, ← HF.out, parseF_step0 HX.out, parseF, if_neg (by rw [HE.out]; decide), if_pos (by rw [HQV.out]; exact hh)])
                clear hh
                go_wp2
                go_ret2
                exact gives_none HN.out (HB.out.trans (HB4.out.mono hszw))
      · have HN := Lib.hid (show parseP s = ([], 3) by
          rw [HP.out, ← HF.out, parseF_step0 HX.out, parseF, if_pos (by rw [oneE_len hl2]; decide), oneE_len hl2])
        have hne2 : (((splitL 61 x).length : Int) == 2) = false := by rw [beq_eq_false_iff_ne]; omega
        clear hl2
        go_wp2
        go_ret2
        exact gives_none HN.out (HB.out.trans (HB2.out.mono hszw))
    · have HN := Lib.hid (show parseP s = (acc, 0) by rw [HP.out, ← HF.out, List.drop_of_length_le (by omega)]; rfl)
      go_wp2
      go_ret2
      rw [HN.out]
      refine ⟨_, rfl, ?_, HB.out⟩
      rw [HA.out]
      exact HO.out

set_option maxHeartbeats 1000000 in
/-- THE WALK: no text. -/
theorem rparse_empty (w : World) : Calls Tryz.prog 38 #[.string ⟨#[]⟩] w (GivesPairs (parseP ⟨#[]⟩) w) := by
  have HP := Lib.hid (show parseP ⟨#[]⟩ = ([], 0) from rfl)
  go_enter Tryz.func38, Tryz.ntmps38
  go_wp2
  go_ret2
  rw [HP.out]
  exact ⟨_, rfl, own_empty (Nat.le_refl _), box_below⟩
set_option maxHeartbeats 1000000 in
/-- THE WALK: too many pieces. -/
theorem rparse_many (s : ByteArray) (w : World) (hs : s.size ≤ 1048576) (h0 : s.size ≠ 0) (h6 : 6 < (piecesOf s).length) :
    Calls Tryz.prog 38 #[.string s] w (GivesPairs (parseP s) w) := by
  have HP := Lib.hid (parseP_many h0 h6)
  have hne : (s.toList == []) = false := by rw [beq_eq_false_iff_ne, ByteArray.toList_eq]; intro e; apply h0; rw [← show s.data.toList.length = s.size by simp, e]; rfl
  clear h0
  go_enter Tryz.func38, Tryz.ntmps38
  go_wp2_with fail
  refine (rsplit_any s 44 _ rfl _ hs).mono ?_
  rintro e w1 ⟨pv, rfl, hpv, hb1⟩
  change w1.ownsRow _ _ _ pv (piecesOf s).length ((piecesOf s).map _) at hpv
  have HB1 := Lib.hid (box_below2 hb1)
  obtain ⟨pa, pcap, rfl, hpc, hpm, -, -⟩ := own_cells hpv
  clear hpv hb1
  go_wp2
  go_ret2
  exact gives_none HP.out HB1.out
/-- THE WALK: billetref04.Parse, whatever the text. -/
theorem rparse_any (s : ByteArray) (w : World) (hs : s.size ≤ 1048576) : Calls Tryz.prog 38 #[.string s] w (GivesPairs (parseP s) w) := by
  by_cases h0 : s.size = 0
  · have : s = ⟨#[]⟩ := by
      apply ba_ext
      have : s.data.toList.length = 0 := by simpa using h0
      rw [List.length_eq_zero_iff.1 this]
    subst this
    exact rparse_empty w
  · by_cases h6 : 6 < (piecesOf s).length
    · exact rparse_many s w hs h0 h6
    · exact rparse_few s w hs h0 h6
end Go.Proofs.YtdbjihkgafhakaaGreatDoor
