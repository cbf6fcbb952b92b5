/-
 billetref04.Find and Parse: the walks.
 billetref04.Show and least: the walks.
 billetref04.Canon: the walk.
 prop.Match: the walk.
 prop.Match and billetref04.Match, whatever the texts: the walks.
 pool.Pools: what a Take chooses: its closure's walk.
-/
import Derived.Test.YtdbjihkgafhakaaGreatDoorSl11
import Derived.Deep.RegionHeld3
import Derived.Deep.AppendLies
import Derived.Deep.QuietTactic
import Derived.BigQuiet
import Derived.WalkLawsBesides
import Derived.Maps.OwnSet
import Derived.Test.YtdbjihkgafhakaaGreatDoorSl10
import Derived.Lib.QuietBelow
import Derived.BigRegion
namespace Go.Proofs.YtdbjihkgafhakaaGreatDoor
open Go.RowKit
def findV (l : List Pr) (k : ByteArray) : ByteArray := match l.find? (keyB k) with | some p => p.2 | none => ⟨#[]⟩
theorem Zg2 {l : List Pr} {k : Nat} {p : Pr} {key : ByteArray} (h : l[k]? = some p) : (l.drop k).find? (keyB key) = if keyB key p = true then some p else (l.drop (k + 1)).find? (keyB key) := by
 obtain ⟨hk, rfl⟩ := List.getElem?_eq_some_iff.1 h
 rw [List.drop_eq_getElem_cons hk, List.find?_cons]
 cases keyB key l[k] <;> simp
theorem Zew {l : List Pr} {key : ByteArray} {p : Pr} (h : l.find? (keyB key) = some p) : findV l key = p.2 ∧ Zah l key = true := by
 refine ⟨by unfold findV; rw [h], ?_⟩
 rw [ZcH, List.any_eq_true]
 exact ⟨p, List.mem_of_find?_eq_some h, List.find?_some h⟩
theorem Zg3 {l : List Pr} {key : ByteArray} (h : l.find? (keyB key) = none) : findV l key = ⟨#[]⟩ ∧ Zah l key = false := by
 refine ⟨by unfold findV; rw [h], ?_⟩
 rw [ZcH, List.any_eq_false]
 intro p hp
 simpa using List.find?_eq_none.1 h p hp
set_option maxRecDepth 100000 in
set_option maxHeartbeats 1000000 in
theorem Zex (v : Value) (l : List Pr) (key : ByteArray) (w : World) (hA : PairsAt w v l) :
 Calls Tryz.prog 39 #[v, .string key] w fun e w' => e = .returned (.tuple #[.string (findV l key), .bool (Zah l key)]) ∧ w = w' := by
 obtain ⟨a, cap, rfl, hcap, hmax, hcell⟩ := hA
 have HC := Lib.hid hcell
 have hmax' : l.length ≤ 9223372036854775807 := by unfold maxLen at hmax; omega
 clear hcell
 go_enter Tryz.func39, Tryz.ntmps39
 go_wp2
 go_loop [6] (fun i => ∃ k : Nat, i = .int .i64 k ∧ k ≤ l.length ∧ (l.drop k).find? (keyB key) = l.find? (keyB key)) (fun i => l.length - (intOf i).toNat)
 case atStart => exact ⟨0, rfl, Nat.zero_le _, rfl⟩
 case round =>
  obtain ⟨k, rfl, hk, hf⟩ := hrel
  have HF := Lib.hid hf
  clear hf
  by_cases hlt : k < l.length
  ·obtain ⟨p, hp⟩ : ∃ p, l[k]? = some p := ⟨_, List.getElem?_eq_getElem hlt⟩
   obtain ⟨g, rfl, hgl, c0⟩ := HC.out (k * 2) (.string p.1) (by have := ZaH 0 hp (by omega); simpa [encP] using this)
   obtain ⟨g', hg', _, c1⟩ := HC.out (k * 2 + 1) (.string p.2) (by have := ZaH 1 hp (by omega); simpa [encP] using this)
   cases hg'
   rcases hq : keyB key p with _ | _
   ·have HN := Lib.hid (show (l.drop (k + 1)).find? (keyB key) = l.find? (keyB key) by rw [← HF.out, Zg2 hp, if_neg (by rw [hq]; decide)])
    have hb : (p.1.toList == key.toList) = false := by rw [Zes]; exact hq
    clear hp hq
    go_wp2
    go_round
    case rel => exact ⟨k + 1, by go_num, by omega, HN.out⟩
    case measure => simp [intOf]; omega
   ·have HN := Lib.hid (Zew (show l.find? (keyB key) = some p by rw [← HF.out, Zg2 hp, if_pos hq]))
    have hb : (p.1.toList == key.toList) = true := by rw [Zes]; exact hq
    clear hp hq
    go_wp2
    go_ret2
    rw [HN.out.1, HN.out.2]
    exact ⟨rfl, rfl⟩
  ·have HN := Lib.hid (Zg3 (l := l) (key := key) (by rw [← HF.out, List.drop_of_length_le (by omega)]; rfl))
   go_wp2
   go_ret2
   rw [HN.out.1, HN.out.2]
   exact ⟨rfl, rfl⟩
theorem Zid {x : List UInt8} (h : (Zu 61 x).length ≠ 2) : oneE x = 3 := by
 unfold oneE
 split
 ·rename_i heq; rw [heq] at h; simp at h
 ·rfl
theorem ZeT {x k v : List UInt8} (h : Zu 61 x = [k, v]) : oneE x = if Zby k v = true then 0 else 5 := by
 unfold oneE
 rw [h]
theorem ZjZ {x k v : List UInt8} (h : Zu 61 x = [k, v]) : oneV x = (ba k, ba v) := by
 unfold oneV
 rw [h]
def RPRel (s : ByteArray) (w : World) (pv v i : Value) (wr : World) : Prop := ∃ (k : Nat) (acc : List Pr), i = .int .i64 k ∧ k ≤ (Zq s).length ∧ acc.length = k ∧ ZH acc ((Zq s).drop k) = ZH [] (Zq s) ∧
 wr.ownsRow w.heap.size 89 2 v k (flatP acc) ∧ wr.ownsRow w.heap.size 9 1 pv (Zq s).length ((Zq s).map fun p => Value.string (ba p)) ∧ Below w.heap.size w wr
set_option maxRecDepth 100000 in
set_option maxHeartbeats 2000000 in
theorem Zkz (s : ByteArray) (w : World) (hs : s.size ≤ 1048576) (h0 : s.size ≠ 0) (h6 : ¬ 6 < (Zq s).length) :
 Calls Tryz.prog 38 #[.string s] w (ZaT (Zn s) w) := by
 have HP := Lib.hid (Zf7 h0 h6)
 have hne : (s.toList == []) = false := by rw [beq_eq_false_iff_ne, ByteArray.toList_eq]; intro e; apply h0; rw [← show s.data.toList.length = s.size by simp, e]; rfl
 have HM := Lib.hid (fun x hx => ZaL 44 s.data.toList x hx)
 have hsl : s.data.toList.length = s.size := by simp
 have h6' : (Zq s).length ≤ 6 := by omega
 clear h0 h6
 go_enter Tryz.func38, Tryz.ntmps38
 go_wp2_with fail
 refine (ZdQ s 44 _ rfl _ hs).mono ?_
 rintro e w1 ⟨pv, rfl, hpv, hb1⟩
 change w1.ownsRow _ _ _ pv (Zq s).length ((Zq s).map _) at hpv
 have HB1 := Lib.hid (Zy hb1)
 have HP1 := Lib.hid (Zap hpv (show w.heap.size ≤ _ by simp))
 have HO1 := Lib.hid (Zk (Zal (w := w) (b := w.heap.size) (size := 2) (t := 89) (Nat.le_refl _)) hb1)
 obtain ⟨pa, pcap, rfl, hpc, hpm, -, -⟩ := ZC hpv
 clear hpv hb1
 go_wp2_with fail
 go_loopw [4, 6] (fun v i wr => RPRel s w (.slice pa (Zq s).length pcap) v i wr) (fun _ i _ => (Zq s).length - (intOf i).toNat)
 case atStart => exact ⟨0, [], rfl, Nat.zero_le _, rfl, rfl, HO1.out, HP1.out, HB1.out⟩
 case round =>
  obtain ⟨k, acc, rfl, hk, hacc, hpf, hown, hpv, hb⟩ := hrel
  have HA := Lib.hid hacc
  have HF := Lib.hid hpf
  have HO := Lib.hid hown
  have HV := Lib.hid hpv
  have HB := Lib.hid hb
  have hszw := hb.size
  obtain ⟨_, _, hpe, -, -, -, hpcell⟩ := ZC hpv
  cases hpe
  have HPC := Lib.hid hpcell
  obtain ⟨a, cap, rfl, hcap, hmax, hlen, hcell⟩ := ZC hown
  clear hacc hpf hown hpv hb hcell hlen HP1 HO1 HB1 hpcell
  by_cases hlt : k < (Zq s).length
  ·obtain ⟨x, hx⟩ : ∃ x, (Zq s)[k]? = some x := ⟨_, List.getElem?_eq_getElem hlt⟩
   obtain ⟨pg, rfl, -, -, hc, -⟩ := HPC.out k (.string (ba x)) (by rw [List.getElem?_map, hx]; rfl)
   have hxl : (ba x).size ≤ 1048576 := by rw [ZS]; have := HM.out x (List.mem_of_getElem? hx); omega
   have HX := Lib.hid hx
   clear hx
   go_wp2_with fail
   refine (ZdQ (ba x) 61 _ rfl _ hxl).mono ?_
   rintro e w2 ⟨kv, rfl, hkv, hb2⟩
   rw [Zab] at hkv
   have HB2 := Lib.hid hb2
   have hsz2 := hb2.size
   have HKV := Lib.hid hkv
   obtain ⟨ka, kcap, rfl, hkc, hkm, -, hkcell⟩ := ZC hkv
   have HKC := Lib.hid hkcell
   clear hb2 hkv hkcell
   by_cases hl2 : (Zu 61 x).length = 2
   ·obtain ⟨q0, q1, hq⟩ : ∃ q0 q1, Zu 61 x = [q0, q1] := by
     match h : Zu 61 x, hl2 with
     | [q0, q1], _ => exact ⟨q0, q1, rfl⟩
    have hq0l : q0.length ≤ x.length := ZaL 61 x q0 (by rw [hq]; simp)
    have hq1l : q1.length ≤ x.length := ZaL 61 x q1 (by rw [hq]; simp)
    rw [ZS] at hxl
    have hs0 : (ba q0).size ≤ 140737488351232 := by rw [ZS]; omega
    have hs1 : (ba q1).size ≤ 140737488351232 := by rw [ZS]; omega
    obtain ⟨kg, rfl, hkg, hkgl, c0, -⟩ := HKC.out 0 (.string (ba q0)) (by rw [hq]; rfl)
    obtain ⟨kg', hkg', -, -, c1, -⟩ := HKC.out 1 (.string (ba q1)) (by rw [hq]; rfl)
    cases hkg'
    have HQ := Lib.hid hq
    rw [hl2]
    rw [hl2] at hkc
    clear hq hl2
    go_wp2_with fail
    refine (Zev (ba q0) _ hs0).mono ?_
    rintro e w3 ⟨rfl, hb3⟩
    have d0 := Zc hb3 c0
    have d1 := Zc hb3 c1
    have HB3 := Lib.hid (HB2.out.trans (hb3.mono hsz2))
    have HW3 := Lib.hid hb3
    have hsz3 : w2.heap.size ≤ w3.heap.size := hb3.size
    clear hb3 c0 c1
    rcases hk0 : nameB (ba q0) with _ | _
    ·have HN := Lib.hid (show Zn s = ([], 5) by
      have he : oneE x = 5 := by rw [ZeT HQ.out, if_neg]; unfold Zby; simp [hk0]
      rw [HP.out, ← HF.out, Zad HX.out, ZH, if_pos (by rw [he]; decide), he])
     clear hk0
     go_wp2
     go_ret2
     exact Zau HN.out (HB.out.trans (HB3.out.mono hszw))
    ·by_cases hst : q1 = [42]
     ·subst hst
      have HE := Lib.hid (show oneE x = 0 by rw [ZeT HQ.out, if_pos]; unfold Zby; simp [hk0])
      have q42 : ((ba [42]).toList == [42]) = true := by rw [Zcb]; rfl
      clear hk0
      have HQV := Lib.hid (ZjZ HQ.out)
      have HPA := Lib.hid (show PairsAt w3 (.slice a k cap) acc from Zbu (by rw [HA.out]; exact Zk HO.out HB3.out))
      go_wp2_with fail
      refine (Zex (.slice a k cap) acc (ba q0) _ HPA.out).mono ?_
      rintro e w5 ⟨rfl, rfl⟩
      rcases hh : Zah acc (ba q0) with _ | _
      ·have HF2 := Lib.hid (show ZH (acc ++ [(ba q0, ba [42])]) ((Zq s).drop (k + 1)) = ZH [] (Zq s) by
        rw [← HF.out, Zad HX.out, ZH, if_neg (by rw [HE.out]; decide), HQV.out, if_neg (by rw [hh]; decide)])
       have HO5 := Lib.hid (Zk HO.out HB3.out)
       have HV5 := Lib.hid (Zk HV.out HB3.out)
       have hszB := HB3.out.size
       clear hh
       have HK5 := Lib.hid (Zk HKV.out (HW3.out))
       have hak : (Value.slice a k cap).ownBlock ≠ some kg := by
        rcases ZG HO5.out HK5.out (by decide) with h | h
        ·rw [h]; intro e; cases e
        ·exact h
       obtain ⟨i0, hi0, hz0, hz1, hz2⟩ := info_parts Zet
       have lk : kg < w3.heap.size := Nat.lt_of_lt_of_le hkgl HW3.out.size
       go_wp2_with fail
       go_region_held3 (fun w' => w'.cell? ⟨kg, 0, none⟩ = some (.string (ba q0)) ∧ w'.cell? ⟨kg, 1, none⟩ = some (.string (ba [42])))
        (first
          | go_keep
          | (go_split_ands
             refine ⟨?_, ?_⟩
             ·(rw [hgrow.cell_far _ (by simp; omega) (Ne.symm hak)]; assumption)
             ·(rw [hgrow.cell_far _ (by simp; omega) (Ne.symm hak)]; assumption)))
        ((refine step_append_lies _ (by rfl) _ _ _ (by rfl) w.heap.size 89 i0 _ 2 32 Tryz.underlying83 hi0 hz0 hz1 hz2 rfl (by omega) (Value.slice a k cap) k (flatP acc) (by rfl) ((HO5.out.alloc _).drew)
           ⟨w3.heap.size, 0, none⟩ 1 1 [.string (ba q0), .string (ba [42])] (by rfl) (by rfl) (World.news_of_block (cs := #[.string (ba q0), .string (ba [42])]) (t := 89) (fr := (0, 0)) (heap_alloc_new w3 _)) (by simp [Value.oneCell'])
           (by omega) (by unfold maxLen; omega) (by omega) (by simp; omega) (w3.heap.size + 1) (by simp) ?_; intro gg gcap w9 hown9 hgrow hat hlt9))
       have HO9 := Lib.hid (show w9.ownsRow w.heap.size 89 2 (.slice (some ⟨gg, 0, none⟩) (k + 1) gcap) (k + 1) (flatP (acc ++ [(ba q0, ba [42])])) by rw [ZdP]; exact hown9)
       have HV9 := Lib.hid (World.ownsRow.kept ((HV5.out.alloc _).drew) hgrow (ZG HV5.out HO5.out (by decide)))
       have HB9 := Lib.hid (show Below w.heap.size w w9 from (((HB.out.trans (HB3.out.mono hszw)).alloc (by omega) _).drew).grown hgrow (by simp; omega) (fun j hj => Zl HO5.out j hj))
       clear hown9 hgrow hat hlt9
       go_wp2
       go_roundw
       case rel => exact ⟨k + 1, acc ++ [(ba q0, ba [42])], by go_num, by omega, by simp [HA.out], HF2.out, HO9.out, HV9.out, HB9.out⟩
       case measure => simp [intOf]; omega
      ·have HN := Lib.hid (show Zn s = ([], 8) by
        rw [HP.out, ← HF.out, Zad HX.out, ZH, if_neg (by rw [HE.out]; decide), if_pos (by rw [HQV.out]; exact hh)])
       clear hh
       go_wp2
       go_ret2
       exact Zau HN.out (HB.out.trans (HB3.out.mono hszw))
     ·have q42 : ((ba q1).toList == [42]) = false := by rw [Zcb]; exact beq_eq_false_iff_ne.2 hst
      rcases hk1 : nameB (ba q1) with _ | _
      ·have HN := Lib.hid (show Zn s = ([], 5) by
        have he : oneE x = 5 := by rw [ZeT HQ.out, if_neg]; unfold Zby; simp [hst, hk1]
        rw [HP.out, ← HF.out, Zad HX.out, ZH, if_pos (by rw [he]; decide), he])
       have HK1 := Lib.hid hk1
       clear hk0 hk1 hst
       go_wp2_with fail
       refine (Zev (ba q1) _ hs1).mono ?_
       rintro e w4 ⟨rfl, hb4⟩
       rw [HK1.out]
       have HB4 := Lib.hid (HB3.out.trans (hb4.mono (Nat.le_trans hsz2 hsz3)))
       clear hb4
       go_wp2
       go_ret2
       exact Zau HN.out (HB.out.trans (HB4.out.mono hszw))
      ·have HE := Lib.hid (show oneE x = 0 by rw [ZeT HQ.out, if_pos]; unfold Zby; simp [hk0, hk1])
       have HK1 := Lib.hid hk1
       clear hk0 hk1 hst
       go_wp2_with fail
       refine (Zev (ba q1) _ hs1).mono ?_
       rintro e w4 ⟨rfl, hb4⟩
       rw [HK1.out]
       have d0' := Zc hb4 d0
       have d1' := Zc hb4 d1
       have HB4 := Lib.hid (HB3.out.trans (hb4.mono (Nat.le_trans hsz2 hsz3)))
       have HW4 := Lib.hid (HW3.out.trans (hb4.mono hsz3))
       clear hb4 d0 d1
       have HQV := Lib.hid (ZjZ HQ.out)
       have HPA := Lib.hid (show PairsAt w4 (.slice a k cap) acc from Zbu (by rw [HA.out]; exact Zk HO.out HB4.out))
       go_wp2_with fail
       refine (Zex (.slice a k cap) acc (ba q0) _ HPA.out).mono ?_
       rintro e w5 ⟨rfl, rfl⟩
       rcases hh : Zah acc (ba q0) with _ | _
       ·have HF2 := Lib.hid (show ZH (acc ++ [(ba q0, ba q1)]) ((Zq s).drop (k + 1)) = ZH [] (Zq s) by
         rw [← HF.out, Zad HX.out, ZH, if_neg (by rw [HE.out]; decide), HQV.out, if_neg (by rw [hh]; decide)])
        have HO5 := Lib.hid (Zk HO.out HB4.out)
        have HV5 := Lib.hid (Zk HV.out HB4.out)
        have hszB := HB4.out.size
        clear hh
        have HK5 := Lib.hid (Zk HKV.out (HW4.out))
        have hak : (Value.slice a k cap).ownBlock ≠ some kg := by
         rcases ZG HO5.out HK5.out (by decide) with h | h
         ·rw [h]; intro e; cases e
         ·exact h
        obtain ⟨i0, hi0, hz0, hz1, hz2⟩ := info_parts Zet
        have lk : kg < w4.heap.size := Nat.lt_of_lt_of_le hkgl HW4.out.size
        go_wp2_with fail
        go_region_held3 (fun w' => w'.cell? ⟨kg, 0, none⟩ = some (.string (ba q0)) ∧ w'.cell? ⟨kg, 1, none⟩ = some (.string (ba q1)))
         (first
           | go_keep
           | (go_split_ands
              refine ⟨?_, ?_⟩
              ·(rw [hgrow.cell_far _ (by simp; omega) (Ne.symm hak)]; assumption)
              ·(rw [hgrow.cell_far _ (by simp; omega) (Ne.symm hak)]; assumption)))
         ((refine step_append_lies _ (by rfl) _ _ _ (by rfl) w.heap.size 89 i0 _ 2 32 Tryz.underlying83 hi0 hz0 hz1 hz2 rfl (by omega) (Value.slice a k cap) k (flatP acc) (by rfl) ((HO5.out.alloc _).drew)
            ⟨w4.heap.size, 0, none⟩ 1 1 [.string (ba q0), .string (ba q1)] (by rfl) (by rfl) (World.news_of_block (cs := #[.string (ba q0), .string (ba q1)]) (t := 89) (fr := (0, 0)) (heap_alloc_new w4 _)) (by simp [Value.oneCell'])
            (by omega) (by unfold maxLen; omega) (by omega) (by simp; omega) (w4.heap.size + 1) (by simp) ?_; intro gg gcap w9 hown9 hgrow hat hlt9))
        have HO9 := Lib.hid (show w9.ownsRow w.heap.size 89 2 (.slice (some ⟨gg, 0, none⟩) (k + 1) gcap) (k + 1) (flatP (acc ++ [(ba q0, ba q1)])) by rw [ZdP]; exact hown9)
        have HV9 := Lib.hid (World.ownsRow.kept ((HV5.out.alloc _).drew) hgrow (ZG HV5.out HO5.out (by decide)))
        have HB9 := Lib.hid (show Below w.heap.size w w9 from (((HB.out.trans (HB4.out.mono hszw)).alloc (by omega) _).drew).grown hgrow (by simp; omega) (fun j hj => Zl HO5.out j hj))
        clear hown9 hgrow hat hlt9
        go_wp2
        go_roundw
        case rel => exact ⟨k + 1, acc ++ [(ba q0, ba q1)], by go_num, by omega, by simp [HA.out], HF2.out, HO9.out, HV9.out, HB9.out⟩
        case measure => simp [intOf]; omega
       ·have HN := Lib.hid (show Zn s = ([], 8) by
         rw [HP.out, ← HF.out, Zad HX.out, ZH, if_neg (by rw [HE.out]; decide), if_pos (by rw [HQV.out]; exact hh)])
        clear hh
        go_wp2
        go_ret2
        exact Zau HN.out (HB.out.trans (HB4.out.mono hszw))
   ·have HN := Lib.hid (show Zn s = ([], 3) by
     rw [HP.out, ← HF.out, Zad HX.out, ZH, if_pos (by rw [Zid hl2]; decide), Zid hl2])
    have hne2 : (((Zu 61 x).length : Int) == 2) = false := by rw [beq_eq_false_iff_ne]; omega
    clear hl2
    go_wp2
    go_ret2
    exact Zau HN.out (HB.out.trans (HB2.out.mono hszw))
  ·have HN := Lib.hid (show Zn s = (acc, 0) by rw [HP.out, ← HF.out, List.drop_of_length_le (by omega)]; rfl)
   go_wp2
   go_ret2
   rw [HN.out]
   refine ⟨_, rfl, ?_, HB.out⟩
   rw [HA.out]
   exact HO.out
set_option maxHeartbeats 1000000 in
theorem Zie (w : World) : Calls Tryz.prog 38 #[.string ⟨#[]⟩] w (ZaT (Zn ⟨#[]⟩) w) := by
 have HP := Lib.hid (show Zn ⟨#[]⟩ = ([], 0) from rfl)
 go_enter Tryz.func38, Tryz.ntmps38
 go_wp2
 go_ret2
 rw [HP.out]
 exact ⟨_, rfl, Zal (Nat.le_refl _), box_below⟩
set_option maxHeartbeats 1000000 in
theorem Zjq (s : ByteArray) (w : World) (hs : s.size ≤ 1048576) (h0 : s.size ≠ 0) (h6 : 6 < (Zq s).length) :
 Calls Tryz.prog 38 #[.string s] w (ZaT (Zn s) w) := by
 have HP := Lib.hid (Zfm h0 h6)
 have hne : (s.toList == []) = false := by rw [beq_eq_false_iff_ne, ByteArray.toList_eq]; intro e; apply h0; rw [← show s.data.toList.length = s.size by simp, e]; rfl
 clear h0
 go_enter Tryz.func38, Tryz.ntmps38
 go_wp2_with fail
 refine (ZdQ s 44 _ rfl _ hs).mono ?_
 rintro e w1 ⟨pv, rfl, hpv, hb1⟩
 change w1.ownsRow _ _ _ pv (Zq s).length ((Zq s).map _) at hpv
 have HB1 := Lib.hid (Zy hb1)
 obtain ⟨pa, pcap, rfl, hpc, hpm, -, -⟩ := ZC hpv
 clear hpv hb1
 go_wp2
 go_ret2
 exact Zau HP.out HB1.out
theorem ZbK (s : ByteArray) (w : World) (hs : s.size ≤ 1048576) : Calls Tryz.prog 38 #[.string s] w (ZaT (Zn s) w) := by
 by_cases h0 : s.size = 0
 ·have : s = ⟨#[]⟩ := by
   apply Zdj
   have : s.data.toList.length = 0 := by simpa using h0
   rw [List.length_eq_zero_iff.1 this]
  subst this
  exact Zie w
 ·by_cases h6 : 6 < (Zq s).length
  ·exact Zjq s w hs h0 h6
  ·exact Zkz s w hs h0 h6
/-! ### The least key -/
def upto (a i : Nat) (l : List Pr) : List Pr := (l.take i).eraseIdx a
open Go.Maps Go.WideMaps
def Zav (l : List Pr) (p : Pr) : Bool := match l.find? (keyB p.1) with
 | none => false
 | some q => q.2.data.toList == p.2.data.toList || (q.2.data.toList == [42] || p.2.data.toList == [42])
def Z0 (s t : ByteArray) : Bool := decide (Z3 s = 0) && (decide (Z3 t = 0) && (Zn t).1.all (Zav (Zn s).1))
/-! ### The map -/
def elemD {H : Type} (v : ByteArray) : DataW H := .agg [.lit (.string v.data.toList)]
def keyL (k : ByteArray) : Lit := .string k.data.toList
def mapP {H : Type} (l : List Pr) : DataW H := l.foldl (fun m p => m.put (keyL p.1) (elemD p.2)) (.map [])
theorem ZlN {H : Type} (l : List Pr) (p : Pr) : (mapP (l ++ [p]) : DataW H) = (mapP l).put (keyL p.1) (elemD p.2) := by simp [mapP]
theorem Zj0 (k : ByteArray) : WideAt.IsKeyLit (keyL k) := trivial
theorem Zj1 {a b : ByteArray} (h : (a.data.toList == b.data.toList) = false) : keyL b ≠ keyL a := by
 intro e
 simp only [keyL, Lit.string.injEq] at e
 rw [beq_eq_false_iff_ne] at h
 exact h e.symm
theorem Zfp (p : Pr) (r : List Pr) (k : ByteArray) : Zah (p :: r) k = (keyB k p || Zah r k) := by rw [ZcH, ZcH, List.any_cons]
theorem Zif {H : Type} (k : ByteArray) : ∀ (l : List Pr) (m : DataW H), IsMap m → Maps.has (l.foldl (fun m p => m.put (keyL p.1) (elemD p.2)) m) (keyL k) = (Zah l k || Maps.has m (keyL k))
 | [], m, _ => by simp [Zah]
 | p :: r, m, h => by
   rw [List.foldl_cons, Zif k r _ (h.put _ _)]
   rcases hq : (p.1.data.toList == k.data.toList) with _ | _
   ·rw [has_put_other (Zj1 hq), Zfp, show keyB k p = false from hq, Bool.false_or]
   ·have e : keyL k = keyL p.1 := by simp only [keyL]; rw [beq_iff_eq.1 hq]
    rw [Zfp, show keyB k p = true from hq, e, has_put_same h (Zj0 _)]
    simp
theorem Zm9 {H : Type} (l : List Pr) (k : ByteArray) : Maps.has (mapP l : DataW H) (keyL k) = Zah l k := by
 unfold mapP
 rw [Zif k l _ isMap_empty]
 have : Maps.has (.map [] : DataW H) (keyL k) = false := rfl
 rw [this]; simp
theorem Zj2 {H : Type} (k : ByteArray) (z : DataW H) : ∀ (l : List Pr) (m : DataW H), IsMap m → Once l → (l.foldl (fun m p => m.put (keyL p.1) (elemD p.2)) m).atKey (keyL k) z = match l.find? (keyB k) with | some p => elemD p.2 | none => m.atKey (keyL k) z
 | [], m, _, _ => rfl
 | p :: r, m, h, ho => by
   rw [List.foldl_cons, Zj2 k z r _ (h.put _ _) (List.Pairwise.of_cons ho), List.find?_cons]
   rcases hq : keyB k p with _ | _
   ·have hq' : (p.1.data.toList == k.data.toList) = false := hq
    simp only []
    cases r.find? (keyB k) with
    | some q => rfl
    | none => exact atKey_put_other (Zj1 hq') _ _
   ·have hq' : (p.1.data.toList == k.data.toList) = true := hq
    have hn : r.find? (keyB k) = none := by
     rw [List.find?_eq_none]
     intro x hx hkx
     have e1 : x.1.data.toList = k.data.toList := beq_iff_eq.1 hkx
     have e2 : p.1.data.toList = k.data.toList := beq_iff_eq.1 hq'
     exact (List.rel_of_pairwise_cons ho hx) (Zdj (e2.trans e1.symm))
    have e : keyL k = keyL p.1 := by simp only [keyL]; rw [beq_iff_eq.1 hq']
    rw [hn, e]
    simp only []
    exact atKey_put_same h (Zj0 _) _ _
theorem ZnU {H : Type} {l : List Pr} (ho : Once l) (k : ByteArray) (z : DataW H) : (mapP l).atKey (keyL k) z = match l.find? (keyB k) with | some p => elemD p.2 | none => z := by
 unfold mapP
 rw [Zj2 k z l _ isMap_empty ho]
 rfl
def arrR {H : Type} (v : Value) : Option (DataW H × List MemPlace) := match v with
 | .agg a => match a.toList with
   | [.string s] => some (elemD s, [])
   | _ => none
 | _ => none
theorem Zj3 {H : Type} (s : ByteArray) : arrR (H := H) (.agg #[.string s]) = some (elemD s, []) := rfl
theorem Zna {H : Type} {v : Value} {d : DataW H} {ps : List MemPlace} (h : arrR v = some (d, ps)) : ∃ s, v = .agg #[.string s] ∧ d = elemD s := by
 unfold arrR at h
 split at h
 ·rename_i a
  split at h
  ·rename_i s e
   simp only [Option.some.injEq, Prod.mk.injEq] at h
   refine ⟨s, ?_, h.1.symm⟩
   congr 1
   exact Array.toList_inj.1 (by rw [e])
  ·cases h
 ·cases h
theorem ZlO {H : Type} {a b : ByteArray} (h : (elemD a : DataW H) = elemD b) : a = b := by
 simp only [elemD, DataW.agg.injEq, List.cons.injEq, DataW.lit.injEq, Lit.string.injEq, and_true] at h
 exact Zdj h
theorem keyS : Keyed Tryz.prog 9 := string_keyed Tryz.underlying9
theorem zeroA (w : World) : (zeroValue 147).run Tryz.prog w = .ok (.agg #[.string ⟨#[]⟩]) w := by kernel_rfl
theorem ZaQ {ops : Array Oper} {rest : List Oper} {o : Oper} {a : Act} {Q : Exit → Act → World → Prop} {w : World} (hg : o.guard = none) (m x : Operand) (hop : o.op = Op.lookup 146 m x true)
 (b n : Nat) (l : List Pr) (hm : a.eval m = .map (some b)) (hown : w.ownsMap Tryz.prog 9 (arrR (H := Unit)) b n (mapP l)) (ho : Once l) (k : ByteArray) (hx : a.eval x = .string k) (hk : k.size ≤ maxLen)
 (hK : ∀ s : ByteArray, (∀ q, l.find? (keyB k) = some q → s = q.2) → wpList Tryz.prog ops Q rest (a.put o.dst (.tuple #[.agg #[.string s], .bool (Zah l k)])) w) : wpList Tryz.prog ops Q (o :: rest) a w :=
 wpList_lookup_own_ok w hg m x 146 hop 9 147 keyS Tryz.underlying146 arrR (zeroA _) (elemD ⟨#[]⟩) [] (Zj3 _) b n (mapP l) hm hown (.string k) (keyL k) hx (keyOf_string_mk Tryz.underlying9 hk)
  (fun v ps hv => by
    obtain ⟨s, rfl, hd⟩ := Zna hv
    rw [Zm9]
    refine hK s (fun q hq => ?_)
    rw [ZnU ho, hq] at hd
    exact (ZlO hd).symm)
theorem ZcA {l : List Pr} (h : ZlJ l) {k : Nat} {p : Pr} (hp : l[k]? = some p) : p.1.size ≤ 1048576 ∧ p.2.size ≤ 1048576 := h.2 p (List.mem_of_getElem? hp)
theorem Zfq {l : List Pr} {p : Pr} (h : Zah l p.1 = false) : Zav l p = false := by
 unfold Zav
 rcases hf : l.find? (keyB p.1) with _ | q
 ·rfl
 ·rw [(Zew hf).2] at h; cases h
theorem Zfr {l : List Pr} {p : Pr} (h : Zah l p.1 = true) : ∃ q, l.find? (keyB p.1) = some q ∧ Zav l p = (q.2.data.toList == p.2.data.toList || (q.2.data.toList == [42] || p.2.data.toList == [42])) := by
 rcases hf : l.find? (keyB p.1) with _ | q
 ·rw [(Zg3 hf).2] at h; cases h
 ·exact ⟨q, rfl, by unfold Zav; rw [hf]⟩
theorem Za6 {l : List Pr} {k : Nat} {p : Pr} {f : Pr → Bool} (h : (l.take k).all f = true) (hp : l[k]? = some p) (hf : f p = true) : (l.take (k + 1)).all f = true := by
 rw [Zeu hp, List.all_append, h]
 simp [hf]
theorem ZeU {l : List Pr} {k : Nat} {p : Pr} {f : Pr → Bool} (hp : l[k]? = some p) (hf : f p = false) : l.all f = false := by
 rw [List.all_eq_false]
 exact ⟨p, List.mem_of_getElem? hp, by simp [hf]⟩
def MRel1 (l1 : List Pr) (w2 : World) (i : Value) (wr : World) : Prop := ∃ k : Nat, i = .int .i64 k ∧ k ≤ l1.length ∧ wr.ownsMap Tryz.prog 9 (arrR (H := Unit)) w2.heap.size k (mapP (l1.take k)) ∧ Below w2.heap.size w2 wr
def MRel2 (l1 l2 : List Pr) (w2 : World) (i : Value) (wr : World) : Prop := ∃ k : Nat, i = .int .i64 k ∧ k ≤ l2.length ∧ (l2.take k).all (Zav l1) = true ∧ wr.ownsMap Tryz.prog 9 (arrR (H := Unit)) w2.heap.size l1.length (mapP l1) ∧ Below w2.heap.size w2 wr
set_option maxRecDepth 100000 in
set_option maxHeartbeats 2000000 in
theorem ZkA (s t : ByteArray) (w : World) (hr : Ready w) (hs : s.size ≤ 1048576) (ht : t.size ≤ 1048576) (h0 : Z3 s = 0) (h1 : Z3 t = 0) :
 Calls Tryz.prog 36 #[.string s, .string t] w fun e w' => e = .returned (.bool (Z0 s t)) ∧ Below w.heap.size w w' := by
 have HR := Lib.hid hr
 have HM1 := Lib.hid (ZcU hs)
 have HM2 := Lib.hid (ZcU ht)
 have HN := Lib.hid (ZiU s)
 have h6 := Zb7 s
 have h7 := Zb7 t
 have HV := Lib.hid (show Z0 s t = (Zn t).1.all (Zav (Zn s).1) by unfold Z0; simp [h0, h1])
 have HE1 := Lib.hid (show (Zn s).2 = 0 from h0)
 have HE2 := Lib.hid (show (Zn t).2 = 0 from h1)
 have hmm := @run_makeMap Tryz.prog
 clear hr h0 h1
 go_enter Tryz.func36, Tryz.ntmps36
 go_wp2_with fail
 refine (Zb1 s _ HR.out hs).mono ?_
 rintro e w1 ⟨v1, rfl, hown1, hb1⟩
 rw [HE1.out]
 have HB1 := Lib.hid hb1
 have HO1 := Lib.hid hown1
 clear hb1 hown1
 go_wp2_with fail
 refine (Zb1 t _ (HR.out.below HB1.out) ht).mono ?_
 rintro e w2 ⟨v2, rfl, hown2, hb2⟩
 rw [HE2.out]
 have HB2 := Lib.hid (HB1.out.trans (hb2.mono HB1.out.size))
 have HA1 := Lib.hid ((Zbu HO1.out).below hb2)
 have HA2 := Lib.hid (Zbu hown2)
 clear hb2 hown2 HO1
 generalize hl1 : (Zn s).1 = l1 at *
 generalize hl2 : (Zn t).1 = l2 at *
 clear hl1 hl2
 obtain ⟨a1, cap1, rfl, hcap1, hmax1, hcell1⟩ := id HA1.out
 obtain ⟨a2, cap2, rfl, hcap2, hmax2, hcell2⟩ := id HA2.out
 have HC1 := Lib.hid hcell1
 have HC2 := Lib.hid hcell2
 clear hcell1 hcell2
 go_wp2_with fail
 go_loopw [35] (fun i wr => MRel1 l1 w2 i wr) (fun i _ => l1.length - (intOf i).toNat)
 case atStart => exact ⟨0, rfl, Nat.zero_le _, World.ownsMap_made _ _ _ _, box_below⟩
 case round =>
  obtain ⟨k, rfl, hk, hmap, hb⟩ := hrel
  have HP := Lib.hid hmap
  have HB := Lib.hid hb
  have hszw := hb.size
  clear hmap hb
  by_cases hlt : k < l1.length
  ·obtain ⟨p, hp⟩ : ∃ p, l1[k]? = some p := ⟨_, List.getElem?_eq_getElem hlt⟩
   obtain ⟨g, rfl, hgl, c0⟩ := HC1.out (k * 2) (.string p.1) (by have := ZaH 0 hp (by omega); simpa [encP] using this)
   obtain ⟨g', hg', -, c1⟩ := HC1.out (k * 2 + 1) (.string p.2) (by have := ZaH 1 hp (by omega); simpa [encP] using this)
   cases hg'
   have d0 := Zc HB.out c0
   have d1 := Zc HB.out c1
   obtain ⟨hs0, hs1⟩ := ZcA HM1.out hp
   have HT := Lib.hid (Zeu hp)
   have hkey : keyOf Tryz.prog 9 (.string p.1) = some (keyL p.1) := keyOf_string_mk Tryz.underlying9 (by unfold maxLen; omega)
   have HKEY := Lib.hid hkey
   clear hp c0 c1 hkey
   go_wp2_with (at_mapUpdate; refine wpList_mapUpdate_own _ rfl _ _ _ 146 rfl 9 147 keyS Tryz.underlying146 (arrR (H := Unit)) w2.heap.size k (mapP (l1.take k)) rfl (HP.out.alloc _) (by unfold maxLen; omega) (.string p.1) (.agg #[.string p.2]) (keyL p.1) rfl rfl HKEY.out (elemD p.2) [] (Zj3 _) ?_; intro w3 hown3 hg3)
   have HP3 := Lib.hid (show w3.ownsMap Tryz.prog 9 (arrR (H := Unit)) w2.heap.size (k + 1) (mapP (l1.take (k + 1))) by rw [HT.out, ZlN]; exact hown3)
   have HB3 := Lib.hid (show Below w2.heap.size w2 w3 from (HB.out.alloc hszw _).grown hg3 (by rw [World.size_alloc]; omega) (fun j hj => by cases hj; exact Nat.le_refl _))
   clear hown3 hg3
   go_wp2
   go_roundw
   case rel => exact ⟨k + 1, by go_num, by omega, HP3.out, HB3.out⟩
   case measure => simp [intOf]; omega
  ·have hkl : k = l1.length := by omega
   subst hkl
   have HP0 := Lib.hid (show wr.ownsMap Tryz.prog 9 (arrR (H := Unit)) w2.heap.size l1.length (mapP l1) by have h := HP.out; rw [List.take_length] at h; exact h)
   clear HP
   go_wp2_with fail
   go_loopw [48] (fun i wr => MRel2 l1 l2 w2 i wr) (fun i _ => l2.length - (intOf i).toNat)
   case atStart => exact ⟨0, rfl, Nat.zero_le _, by simp, HP0.out, HB.out⟩
   case round =>
    obtain ⟨k, rfl, hk2, hall, hmap, hb⟩ := hrel
    have HA := Lib.hid hall
    have HP := Lib.hid hmap
    have JB := Lib.hid hb
    have hszj := hb.size
    clear hall hmap hb HP0 hlt hk
    by_cases hlt : k < l2.length
    ·obtain ⟨p, hp⟩ : ∃ p, l2[k]? = some p := ⟨_, List.getElem?_eq_getElem hlt⟩
     obtain ⟨g, rfl, hgl, c0⟩ := HC2.out (k * 2) (.string p.1) (by have := ZaH 0 hp (by omega); simpa [encP] using this)
     obtain ⟨g', hg', -, c1⟩ := HC2.out (k * 2 + 1) (.string p.2) (by have := ZaH 1 hp (by omega); simpa [encP] using this)
     cases hg'
     have d0 := Zc JB.out c0
     have d1 := Zc JB.out c1
     obtain ⟨hs0, hs1⟩ := ZcA HM2.out hp
     have HQ := Lib.hid hp
     have hml : p.1.size ≤ maxLen := by unfold maxLen; omega
     clear hp c0 c1
     rcases hh : Zah l1 p.1 with _ | _
     ·have HF := Lib.hid (ZeU HQ.out (Zfq hh))
      go_wp2_with (at_lookup; refine ZaQ rfl _ _ rfl w2.heap.size l1.length l1 rfl (HP.out.alloc _) HN.out p.1 rfl hml ?_; intro s5 hs5; clear hs5)
      go_ret
      rw [HV.out, HF.out]
      exact ⟨rfl, HB2.out.trans ((JB.out.trans (Zy box_below |>.mono hszj)).mono HB2.out.size)⟩
     ·obtain ⟨q, hq, hok⟩ := Zfr hh
      have HK := Lib.hid hq
      have e1 : (q.2.data.toList == p.2.data.toList) = (q.2.toList == p.2.toList) := by rw [ByteArray.toList_eq, ByteArray.toList_eq]
      have e2 : (q.2.data.toList == [42]) = (q.2.toList == [42]) := by rw [ByteArray.toList_eq]
      have e3 : (p.2.data.toList == [42]) = (p.2.toList == [42]) := by rw [ByteArray.toList_eq]
      rw [e1, e2, e3] at hok
      have HOK := Lib.hid hok
      clear e1 e2 e3 hok hq
      rcases b1 : (q.2.toList == p.2.toList) with _ | _
      ·rcases b2 : (q.2.toList == [42]) with _ | _
       ·rcases b3 : (p.2.toList == [42]) with _ | _
        ·have HF := Lib.hid (ZeU HQ.out (show Zav l1 p = false by rw [HOK.out, b1, b2, b3]; rfl))
         go_wp2_with (at_lookup; refine ZaQ rfl _ _ rfl w2.heap.size l1.length l1 rfl (HP.out.alloc _) HN.out p.1 rfl hml ?_; intro s5 hs5; obtain rfl := hs5 q HK.out; clear hs5)
         go_ret
         rw [HV.out, HF.out]
         exact ⟨rfl, HB2.out.trans ((JB.out.trans (Zy box_below |>.mono hszj)).mono HB2.out.size)⟩
        ·have HF := Lib.hid (Za6 HA.out HQ.out (show Zav l1 p = true by rw [HOK.out, b1, b2, b3]; simp))
         go_wp2_with (at_lookup; refine ZaQ rfl _ _ rfl w2.heap.size l1.length l1 rfl (HP.out.alloc _) HN.out p.1 rfl hml ?_; intro s5 hs5; obtain rfl := hs5 q HK.out; clear hs5)
         go_roundw
         case rel => exact ⟨k + 1, by go_num, by omega, HF.out, (HP.out.alloc _).alloc _, (JB.out.alloc hszj _).alloc (by rw [World.size_alloc]; omega) _⟩
         case measure => simp [intOf]; omega
       ·have HF := Lib.hid (Za6 HA.out HQ.out (show Zav l1 p = true by rw [HOK.out, b1, b2]; simp))
        go_wp2_with (at_lookup; refine ZaQ rfl _ _ rfl w2.heap.size l1.length l1 rfl (HP.out.alloc _) HN.out p.1 rfl hml ?_; intro s5 hs5; obtain rfl := hs5 q HK.out; clear hs5)
        go_roundw
        case rel => exact ⟨k + 1, by go_num, by omega, HF.out, (HP.out.alloc _).alloc _, (JB.out.alloc hszj _).alloc (by rw [World.size_alloc]; omega) _⟩
        case measure => simp [intOf]; omega
      ·have HF := Lib.hid (Za6 HA.out HQ.out (show Zav l1 p = true by rw [HOK.out, b1]; simp))
       go_wp2_with (at_lookup; refine ZaQ rfl _ _ rfl w2.heap.size l1.length l1 rfl (HP.out.alloc _) HN.out p.1 rfl hml ?_; intro s5 hs5; obtain rfl := hs5 q HK.out; clear hs5)
       go_roundw
       case rel => exact ⟨k + 1, by go_num, by omega, HF.out, (HP.out.alloc _).alloc _, (JB.out.alloc hszj _).alloc (by rw [World.size_alloc]; omega) _⟩
       case measure => simp [intOf]; omega
    ·have HF := Lib.hid (show l2.all (Zav l1) = true by have h := HA.out; rwa [List.take_of_length_le (by omega)] at h)
     go_wp2
     go_ret
     rw [HV.out, HF.out]
     exact ⟨rfl, HB2.out.trans (JB.out.mono HB2.out.size)⟩
set_option maxRecDepth 100000 in
set_option maxHeartbeats 1000000 in
theorem ZkB (s t : ByteArray) (w : World) (hr : Ready w) (hs : s.size ≤ 1048576) (ht : t.size ≤ 1048576) (h0 : Z3 s ≠ 0) :
 Calls Tryz.prog 36 #[.string s, .string t] w fun e w' => e = .returned (.bool (Z0 s t)) ∧ Below w.heap.size w w' := by
 have HR := Lib.hid hr
 have HV := Lib.hid (show Z0 s t = false by unfold Z0; simp [h0])
 have hne : (Z3 s != 0) = true := by rw [bne_iff_ne]; exact h0
 have HE1 := Lib.hid (show (Zn s).2 = Z3 s from rfl)
 have HE2 := Lib.hid (show (Zn t).2 = Z3 t from rfl)
 clear hr h0
 go_enter Tryz.func36, Tryz.ntmps36
 go_wp2_with fail
 refine (Zb1 s _ HR.out hs).mono ?_
 rintro e w1 ⟨v1, rfl, hown1, hb1⟩
 rw [HE1.out]
 have HB1 := Lib.hid hb1
 clear hb1 hown1
 go_wp2_with fail
 refine (Zb1 t _ (HR.out.below HB1.out) ht).mono ?_
 rintro e w2 ⟨v2, rfl, hown2, hb2⟩
 rw [HE2.out]
 have HB2 := Lib.hid (HB1.out.trans (hb2.mono HB1.out.size))
 clear hb2 hown2
 go_wp2
 go_ret
 rw [HV.out]
 exact ⟨rfl, HB2.out⟩
set_option maxRecDepth 100000 in
set_option maxHeartbeats 1000000 in
theorem ZkC (s t : ByteArray) (w : World) (hr : Ready w) (hs : s.size ≤ 1048576) (ht : t.size ≤ 1048576) (h0 : Z3 s = 0) (h1 : Z3 t ≠ 0) :
 Calls Tryz.prog 36 #[.string s, .string t] w fun e w' => e = .returned (.bool (Z0 s t)) ∧ Below w.heap.size w w' := by
 have HR := Lib.hid hr
 have HV := Lib.hid (show Z0 s t = false by unfold Z0; simp [h1])
 have hne : (Z3 t != 0) = true := by rw [bne_iff_ne]; exact h1
 have HE1 := Lib.hid (show (Zn s).2 = 0 from h0)
 have HE2 := Lib.hid (show (Zn t).2 = Z3 t from rfl)
 clear hr h0 h1
 go_enter Tryz.func36, Tryz.ntmps36
 go_wp2_with fail
 refine (Zb1 s _ HR.out hs).mono ?_
 rintro e w1 ⟨v1, rfl, hown1, hb1⟩
 rw [HE1.out]
 have HB1 := Lib.hid hb1
 clear hb1 hown1
 go_wp2_with fail
 refine (Zb1 t _ (HR.out.below HB1.out) ht).mono ?_
 rintro e w2 ⟨v2, rfl, hown2, hb2⟩
 rw [HE2.out]
 have HB2 := Lib.hid (HB1.out.trans (hb2.mono HB1.out.size))
 clear hb2 hown2
 go_wp2
 go_ret
 rw [HV.out]
 exact ⟨rfl, HB2.out⟩
theorem Zg4 (s t : ByteArray) (w : World) (hr : Ready w) (hs : s.size ≤ 1048576) (ht : t.size ≤ 1048576) :
 Calls Tryz.prog 36 #[.string s, .string t] w fun e w' => e = .returned (.bool (Z0 s t)) ∧ Below w.heap.size w w' := by
 by_cases h0 : Z3 s = 0
 ·by_cases h1 : Z3 t = 0
  ·exact ZkA s t w hr hs ht h0 h1
  ·exact ZkC s t w hr hs ht h0 h1
 ·exact ZkB s t w hr hs ht h0
structure PB where
 i : Nat
 n : PN
 k : Nat
 c : PC
def Za7 (b : Option PB) (c : PC) : Bool := match b with
 | none => true
 | some z => decide (c.served < z.c.served)
def fitB (most : Int) (pl : ByteArray) (b : Option PB) (y : PB) : Bool := (decide ((y.k : Int) ≤ most) && decide (0 < totT y.c.rows)) && Za7 b y.c && Z0 pl y.n.name
def stepB (most : Int) (pl : ByteArray) (b : Option PB) (y : PB) : Option PB := if fitB most pl b y = true then some y else b
def bestV (b : Option PB) : Value := .pointer (b.map (fun y => ⟨y.c.blk, 0, none⟩))
def ZaI (b : Option PB) : Ent := match b with
 | none => ent0
 | some y => ⟨y.n.name, y.k, 0, 0, 0, 0, 0, 0⟩
structure TBox (w : World) (mb bb pb wb : Nat) (most : Int) (pl : ByteArray) (b : Option PB) : Prop where
 m : w.heap[mb]? = some (.cells #[.int .i64 most] 3 (0, 0))
 bx : w.heap[bb]? = some (.cells #[bestV b] 73 (0, 0))
 p : w.heap[pb]? = some (.cells #[.string pl] 9 (0, 0))
 wh : w.heap[wb]? = some (.cells (entC (ZaI b)) 25 (0, 0))
 ne : mb ≠ bb ∧ mb ≠ wb ∧ pb ≠ bb ∧ pb ≠ wb ∧ bb ≠ wb
theorem TBox.below {w w' : World} {mb bb pb wb : Nat} {most : Int} {pl : ByteArray} {b : Option PB} (h : TBox w mb bb pb wb most pl b) (hb : Below w.heap.size w w') : TBox w' mb bb pb wb most pl b :=
 ⟨(hb.block _ (Zb h.m)).trans h.m, (hb.block _ (Zb h.bx)).trans h.bx, (hb.block _ (Zb h.p)).trans h.p, (hb.block _ (Zb h.wh)).trans h.wh, h.ne⟩
theorem TBox.pick {w w' : World} {mb bb pb wb : Nat} {most : Int} {pl : ByteArray} {b : Option PB} (h : TBox w mb bb pb wb most pl b) (y : PB) (hw : w' = (((((((((((w.setCell ⟨bb, 0, none⟩ (.pointer (some ⟨y.c.blk, 0, none⟩))).setCell ⟨wb, 0, none⟩ (.string ⟨#[]⟩)).setCell ⟨wb, 1, none⟩ (.int .i64 0)).setCell ⟨wb, 2, none⟩ (.int .i64 0)).setCell ⟨wb, 3, none⟩ (.int .i64 0)).setCell ⟨wb, 4, none⟩ (.int .i64 0)).setCell ⟨wb, 5, none⟩ (.int .i64 0)).setCell ⟨wb, 6, none⟩ (.int .i64 0)).setCell ⟨wb, 7, none⟩ (.int .i64 0)).setCell ⟨wb, 0, none⟩ (.string y.n.name)).setCell ⟨wb, 1, none⟩ (.int .i64 y.k)).drew) : TBox w' mb bb pb wb most pl (some y) ∧ Fp (fun j => j = bb ∨ j = wb) w w' := by
 obtain ⟨wa, hwa⟩ : ∃ wa : World, wa = w.setCell ⟨bb, 0, none⟩ (.pointer (some ⟨y.c.blk, 0, none⟩)) := ⟨_, rfl⟩
 rw [← hwa] at hw
 have hFa : Fp (fun j => j = bb) w wa := by rw [hwa]; exact (Fp.refl (fun j => j = bb) w).setCell (p := ⟨bb, 0, none⟩) (fun _ => rfl) _
 have hFb : Fp (fun j => j = wb) wa w' := by rw [hw]; exact (((((((((((Fp.refl (fun k => k = wb) wa).setCell (p := ⟨wb, 0, none⟩) (fun _ => rfl) _).setCell (p := ⟨wb, 1, none⟩) (fun _ => rfl) _).setCell (p := ⟨wb, 2, none⟩) (fun _ => rfl) _).setCell (p := ⟨wb, 3, none⟩) (fun _ => rfl) _).setCell (p := ⟨wb, 4, none⟩) (fun _ => rfl) _).setCell (p := ⟨wb, 5, none⟩) (fun _ => rfl) _).setCell (p := ⟨wb, 6, none⟩) (fun _ => rfl) _).setCell (p := ⟨wb, 7, none⟩) (fun _ => rfl) _).setCell (p := ⟨wb, 0, none⟩) (fun _ => rfl) _).setCell (p := ⟨wb, 1, none⟩) (fun _ => rfl) _).drew
 have hba : wa.heap[bb]? = some (.cells #[bestV (some y)] 73 (0, 0)) := by rw [hwa]; exact Ze h.bx
 have hF : Fp (fun j => j = bb ∨ j = wb) w w' := (hFa.mono (fun _ e => .inl e)).trans hFb (fun _ _ e => .inr e)
 refine ⟨⟨hF.heap h.m (fun e => e.elim h.ne.1 h.ne.2.1), hFb.heap hba h.ne.2.2.2.2, hF.heap h.p (fun e => e.elim h.ne.2.2.1 h.ne.2.2.2.1), ?_, h.ne⟩, hF⟩
 have h1 := (Ze (i := 1) (v := (.int .i64 y.k)) (Ze (i := 0) (v := (.string y.n.name)) (Ze (i := 7) (v := (.int .i64 0)) (Ze (i := 6) (v := (.int .i64 0)) (Ze (i := 5) (v := (.int .i64 0)) (Ze (i := 4) (v := (.int .i64 0)) (Ze (i := 3) (v := (.int .i64 0)) (Ze (i := 2) (v := (.int .i64 0)) (Ze (i := 1) (v := (.int .i64 0)) (Ze (i := 0) (v := (.string ⟨#[]⟩)) (hFa.heap h.wh (fun e => h.ne.2.2.2.2 e.symm))))))))))))
 unfold entC at h1
 simp only [List.setIfInBounds_toArray, List.set_cons_zero, List.set_cons_succ] at h1
 rw [hw, show ∀ u : World, u.drew.heap = u.heap from fun _ => rfl, h1]
 rfl
section
variable {mb bb pb wb : Nat} {most : Int} {pl : ByteArray} {b : Option PB}
set_option maxRecDepth 100000 in
set_option maxHeartbeats 8000000 in
theorem ZlP {ρ : Roles} {q : Int} {nb : Nat} (y : PB) (w : World) (hr : Ready w) (hT : TBox w mb bb pb wb most pl b) (hn : w.cell? ⟨y.n.blk, 0, none⟩ = some (.string y.n.name)) (hC : ClsAt ρ w q nb y.c)
 (hz : ∀ z, b = some z → w.cell? ⟨z.c.blk, 0, none⟩ = some (.int .i64 z.c.served)) (hf : totT y.c.rows ≤ 1000000) (hp : pl.size ≤ 1048576) (hs : y.n.name.size ≤ 1048576) (hb1 : y.n.blk ≠ bb) (hb2 : y.n.blk ≠ wb) :
 Calls Tryz.prog 35 #[.pointer (some ⟨y.n.blk, 0, none⟩), .int .i64 y.k, .pointer (some ⟨y.c.blk, 0, none⟩), .pointer (some ⟨mb, 0, none⟩), .pointer (some ⟨bb, 0, none⟩), .pointer (some ⟨pb, 0, none⟩), .pointer (some ⟨wb, 0, none⟩)] w
  fun e w' => e = .returned (.tuple #[]) ∧ TBox w' mb bb pb wb most pl (stepB most pl b y) ∧ Fp (fun j => j = bb ∨ j = wb) w w' := by
 have HT := Lib.hid hT
 have HN := Lib.hid hn
 have HR := Lib.hid hr
 have HC := Lib.hid hC
 have HP := Lib.hid hp
 have HSZ := Lib.hid hs
 have HF := Lib.hid hf
 have m0 := cell_regrown (Za hT.m rfl : w.cell? ⟨mb, 0, none⟩ = some (.int .i64 most))
 have b0 := cell_regrown (Za hT.bx rfl : w.cell? ⟨bb, 0, none⟩ = some (bestV b))
 have p0 := cell_regrown (Za hT.p rfl : w.cell? ⟨pb, 0, none⟩ = some (.string pl))
 have n0 := cell_regrown hn
 have c0 := cell_regrown (Za hC.blk rfl : w.cell? ⟨y.c.blk, 0, none⟩ = some (.int .i64 y.c.served))
 have c1 := cell_regrown (Za hC.blk rfl : w.cell? ⟨y.c.blk, 1, none⟩ = some (.pointer (some ⟨y.c.f, 0, none⟩)))
 have stay : ∀ wx, Below w.heap.size w wx → fitB most pl b y = false → (TBox wx mb bb pb wb most pl (stepB most pl b y) ∧ Fp (fun j => j = bb ∨ j = wb) w wx) := fun wx hb h0 => by
  unfold stepB
  rw [if_neg (by rw [h0]; decide)]
  exact ⟨hT.below hb, Fp.of_below hb⟩
 have HSTAY := Lib.hid stay
 have HZ := Lib.hid hz
 clear hT hn hr hC hp hs hf stay hz
 go_enter Tryz.func35, Tryz.ntmps35
 go_upto_region 0 with fail
 refine wp_region_quiet_below (by kernel_rfl) (by kernel_rfl) ?_
 repeat (go_big_quiet_step (fail))
 by_cases g1 : (y.k : Int) ≤ most
 ·have k1 : decide ((y.k : Int) ≤ most) = true := decide_eq_true g1
  simp only [k1]
  repeat (go_big_quiet_step ((exact Calls.regrown_of (ZcS _ (HC.out.share.below (below_regrown w _ _)) HF.out))))
  by_cases g2 : 0 < totT y.c.rows
  ·have k2 : decide (0 < totT y.c.rows) = true := decide_eq_true g2
   simp only [k2]
   rcases b with _ | z
   ·replace b0 : ∀ d os, (Go.Sort.grow (redrawn w d) os).cell? ⟨bb, 0, none⟩ = some (.pointer none) := b0
    repeat (go_big_quiet_step ((exact Calls.regrown_of (Zg4 pl y.n.name _ (HR.out.below (below_regrown w _ _)) HP.out HSZ.out))))
    rcases g4 : Z0 pl y.n.name with _ | _
    ·have HV := Lib.hid (show fitB most pl none y = false by unfold fitB; rw [g4]; simp)
     repeat (go_big_quiet_step (fail))
     refine wpQuiet_nil ?_
     rintro _ ⟨⟨dq, osq⟩, rfl⟩
     go_wp2_with fail
     exact bodyPost_end (results_none rfl _ _ _) rfl ⟨rfl, HSTAY.out _ (below_regrown w dq osq) HV.out⟩
    ·repeat (go_big_quiet_step (fail))
     have HV := Lib.hid (show fitB most pl none y = true by unfold fitB Za7; rw [k1, k2, g4]; rfl)
     refine wpQuiet_nil ?_
     rintro _ ⟨⟨dq, osq⟩, rfl⟩
     go_upto_region 1 with fail
     obtain ⟨w2, hw2⟩ : ∃ w2 : World, w2 = Go.Sort.grow (redrawn w dq) osq := ⟨_, rfl⟩
     rw [← hw2]
     have HB2 := Lib.hid (show Below w.heap.size w w2 by rw [hw2]; exact below_regrown w dq osq)
     have HT2 := Lib.hid (HT.out.below HB2.out)
     clear hw2 b0 m0 p0 n0 c0 c1 
     have n0 : w2.cell? ⟨y.n.blk, 0, none⟩ = some (.string y.n.name) := Zc HB2.out HN.out
     have q0 : w2.cell? ⟨bb, 0, none⟩ = some (bestV (none)) := Za HT2.out.bx rfl
     have f0 : w2.frozen? ⟨bb, 0, none⟩ = false := Zd HT2.out.bx
     have e0 : w2.cell? ⟨wb, 0, none⟩ = some (.string (ZaI (none)).need) := Za HT2.out.wh rfl
     have e1 : w2.cell? ⟨wb, 1, none⟩ = some (.int .i64 (ZaI (none)).cls) := Za HT2.out.wh rfl
     have e2 : w2.cell? ⟨wb, 2, none⟩ = some (.int .i64 (ZaI (none)).ten) := Za HT2.out.wh rfl
     have e3 : w2.cell? ⟨wb, 3, none⟩ = some (.int .i64 (ZaI (none)).tw) := Za HT2.out.wh rfl
     have e4 : w2.cell? ⟨wb, 4, none⟩ = some (.int .i64 (ZaI (none)).inv) := Za HT2.out.wh rfl
     have e5 : w2.cell? ⟨wb, 5, none⟩ = some (.int .i64 (ZaI (none)).iw) := Za HT2.out.wh rfl
     have e6 : w2.cell? ⟨wb, 6, none⟩ = some (.int .i64 (ZaI (none)).id) := Za HT2.out.wh rfl
     have e7 : w2.cell? ⟨wb, 7, none⟩ = some (.int .i64 (ZaI (none)).cost) := Za HT2.out.wh rfl
     have g0 : w2.frozen? ⟨wb, 0, none⟩ = false := Zd HT2.out.wh
     have g1 : w2.frozen? ⟨wb, 1, none⟩ = false := Zd HT2.out.wh
     have g2 : w2.frozen? ⟨wb, 2, none⟩ = false := Zd HT2.out.wh
     have g3 : w2.frozen? ⟨wb, 3, none⟩ = false := Zd HT2.out.wh
     have g4 : w2.frozen? ⟨wb, 4, none⟩ = false := Zd HT2.out.wh
     have g5 : w2.frozen? ⟨wb, 5, none⟩ = false := Zd HT2.out.wh
     have g6 : w2.frozen? ⟨wb, 6, none⟩ = false := Zd HT2.out.wh
     have g7 : w2.frozen? ⟨wb, 7, none⟩ = false := Zd HT2.out.wh
     have hne : ¬ bb = wb := HT2.out.ne.2.2.2.2
     have hne2 : ¬ wb = bb := fun e => hne e.symm
     have j1 : ¬ y.n.blk = bb := hb1
     have j2 : ¬ y.n.blk = wb := hb2
     go_region
     refine bodyPost_end (results_none rfl _ _ _) rfl ⟨rfl, ?_⟩
     obtain ⟨hB, hF⟩ := HT2.out.pick y rfl
     unfold stepB
     rw [if_pos HV.out]
     exact ⟨hB, (Fp.of_below HB2.out).trans hF (fun _ _ h => h)⟩
   ·replace b0 : ∀ d os, (Go.Sort.grow (redrawn w d) os).cell? ⟨bb, 0, none⟩ = some (.pointer (some ⟨z.c.blk, 0, none⟩)) := b0
    have z0 := cell_regrown (HZ.out z rfl)
    repeat (go_big_quiet_step (fail))
    by_cases g3 : y.c.served < z.c.served
    ·have k3 : decide (y.c.served < z.c.served) = true := decide_eq_true g3
     simp only [k3]
     repeat (go_big_quiet_step ((exact Calls.regrown_of (Zg4 pl y.n.name _ (HR.out.below (below_regrown w _ _)) HP.out HSZ.out))))
     rcases g4 : Z0 pl y.n.name with _ | _
     ·have HV := Lib.hid (show fitB most pl (some z) y = false by unfold fitB; rw [g4]; simp)
      repeat (go_big_quiet_step (fail))
      refine wpQuiet_nil ?_
      rintro _ ⟨⟨dq, osq⟩, rfl⟩
      go_wp2_with fail
      exact bodyPost_end (results_none rfl _ _ _) rfl ⟨rfl, HSTAY.out _ (below_regrown w dq osq) HV.out⟩
     ·repeat (go_big_quiet_step (fail))
      have HV := Lib.hid (show fitB most pl (some z) y = true by unfold fitB Za7; simp only [k1, k2, k3, g4]; rfl)
      refine wpQuiet_nil ?_
      rintro _ ⟨⟨dq, osq⟩, rfl⟩
      go_upto_region 1 with fail
      obtain ⟨w2, hw2⟩ : ∃ w2 : World, w2 = Go.Sort.grow (redrawn w dq) osq := ⟨_, rfl⟩
      rw [← hw2]
      have HB2 := Lib.hid (show Below w.heap.size w w2 by rw [hw2]; exact below_regrown w dq osq)
      have HT2 := Lib.hid (HT.out.below HB2.out)
      clear hw2 b0 m0 p0 n0 c0 c1 z0
      have n0 : w2.cell? ⟨y.n.blk, 0, none⟩ = some (.string y.n.name) := Zc HB2.out HN.out
      have q0 : w2.cell? ⟨bb, 0, none⟩ = some (bestV (some z)) := Za HT2.out.bx rfl
      have f0 : w2.frozen? ⟨bb, 0, none⟩ = false := Zd HT2.out.bx
      have e0 : w2.cell? ⟨wb, 0, none⟩ = some (.string (ZaI (some z)).need) := Za HT2.out.wh rfl
      have e1 : w2.cell? ⟨wb, 1, none⟩ = some (.int .i64 (ZaI (some z)).cls) := Za HT2.out.wh rfl
      have e2 : w2.cell? ⟨wb, 2, none⟩ = some (.int .i64 (ZaI (some z)).ten) := Za HT2.out.wh rfl
      have e3 : w2.cell? ⟨wb, 3, none⟩ = some (.int .i64 (ZaI (some z)).tw) := Za HT2.out.wh rfl
      have e4 : w2.cell? ⟨wb, 4, none⟩ = some (.int .i64 (ZaI (some z)).inv) := Za HT2.out.wh rfl
      have e5 : w2.cell? ⟨wb, 5, none⟩ = some (.int .i64 (ZaI (some z)).iw) := Za HT2.out.wh rfl
      have e6 : w2.cell? ⟨wb, 6, none⟩ = some (.int .i64 (ZaI (some z)).id) := Za HT2.out.wh rfl
      have e7 : w2.cell? ⟨wb, 7, none⟩ = some (.int .i64 (ZaI (some z)).cost) := Za HT2.out.wh rfl
      have g0 : w2.frozen? ⟨wb, 0, none⟩ = false := Zd HT2.out.wh
      have g1 : w2.frozen? ⟨wb, 1, none⟩ = false := Zd HT2.out.wh
      have g2 : w2.frozen? ⟨wb, 2, none⟩ = false := Zd HT2.out.wh
      have g3 : w2.frozen? ⟨wb, 3, none⟩ = false := Zd HT2.out.wh
      have g4 : w2.frozen? ⟨wb, 4, none⟩ = false := Zd HT2.out.wh
      have g5 : w2.frozen? ⟨wb, 5, none⟩ = false := Zd HT2.out.wh
      have g6 : w2.frozen? ⟨wb, 6, none⟩ = false := Zd HT2.out.wh
      have g7 : w2.frozen? ⟨wb, 7, none⟩ = false := Zd HT2.out.wh
      have hne : ¬ bb = wb := HT2.out.ne.2.2.2.2
      have hne2 : ¬ wb = bb := fun e => hne e.symm
      have j1 : ¬ y.n.blk = bb := hb1
      have j2 : ¬ y.n.blk = wb := hb2
      go_region
      refine bodyPost_end (results_none rfl _ _ _) rfl ⟨rfl, ?_⟩
      obtain ⟨hB, hF⟩ := HT2.out.pick y rfl
      unfold stepB
      rw [if_pos HV.out]
      exact ⟨hB, (Fp.of_below HB2.out).trans hF (fun _ _ h => h)⟩
    ·have k3 : decide (y.c.served < z.c.served) = false := decide_eq_false g3
     have HV := Lib.hid (show fitB most pl (some z) y = false by unfold fitB Za7; simp only [k3]; simp)
     simp only [k3]
     repeat (go_big_quiet_step (fail))
     refine wpQuiet_nil ?_
     rintro _ ⟨⟨dq, osq⟩, rfl⟩
     go_wp2_with fail
     exact bodyPost_end (results_none rfl _ _ _) rfl ⟨rfl, HSTAY.out _ (below_regrown w dq osq) HV.out⟩
  ·have k2 : decide (0 < totT y.c.rows) = false := decide_eq_false g2
   have HV := Lib.hid (show fitB most pl b y = false by unfold fitB; rw [k2]; simp)
   simp only [k2]
   repeat (go_big_quiet_step (fail))
   refine wpQuiet_nil ?_
   rintro _ ⟨⟨dq, osq⟩, rfl⟩
   go_wp2_with fail
   exact bodyPost_end (results_none rfl _ _ _) rfl ⟨rfl, HSTAY.out _ (below_regrown w dq osq) HV.out⟩
 ·have k1 : decide ((y.k : Int) ≤ most) = false := decide_eq_false g1
  have HV := Lib.hid (show fitB most pl b y = false by unfold fitB; rw [k1]; simp)
  simp only [k1]
  repeat (go_big_quiet_step (fail))
  refine wpQuiet_nil ?_
  rintro _ ⟨⟨dq, osq⟩, rfl⟩
  go_wp2_with fail
  exact bodyPost_end (results_none rfl _ _ _) rfl ⟨rfl, HSTAY.out _ (below_regrown w dq osq) HV.out⟩
end
end Go.Proofs.YtdbjihkgafhakaaGreatDoor
