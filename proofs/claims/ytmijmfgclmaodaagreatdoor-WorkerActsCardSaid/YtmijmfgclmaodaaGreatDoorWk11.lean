/-
  billetref29.B: Name, No, set, Heard, Pause, Give, Free: the walks.
-/
import Derived.Test.YtmijmfgclmaodaaGreatDoorWk8
import Derived.Test.YtmijmfgclmaodaaGreatDoorStore
import Derived.Deep.AppendLies
import Derived.Deep.MidRow
import Derived.Deep.DeepCutAuto
namespace Go.Proofs.YtmijmfgclmaodaaGreatDoor
open Go.RowKit

set_option maxRecDepth 100000 in
set_option maxHeartbeats 1000000 in
theorem rbnm_any (room last : Int) (v : Value) (l : List Wk) (n : ByteArray) (w : World) (hr : RowsW w v l) :
    Calls Tryz.prog 32 #[.agg #[.int .i64 room, .int .i64 last, v], .string n] w fun e w' => e = .returned (.int .i64 (findI (nmB n) l)) ∧ Below w.heap.size w w' := by
  obtain ⟨a, cap, rfl, hl, hcell⟩ := hr
  have HC := Lib.hid hcell
  clear hcell
  go_enter Tryz.func32, Tryz.ntmps32
  go_upto_region 1 with fail
  obtain ⟨w1, hw1⟩ : ∃ w1 : World, w1 = w.alloc (.cells #[.int .i64 room, .int .i64 last, .slice a l.length cap] 29) := ⟨_, rfl⟩
  rw [← hw1]
  have HB := Lib.hid (show Below w.heap.size w w1 by rw [hw1]; exact box_below)
  have b2 : w1.cell? ⟨w.heap.size, 2, none⟩ = some (.slice a l.length cap) := by rw [hw1]; exact cell_alloc_at rfl
  clear hw1
  go_wp2
  go_loop [5] (fun i => ∃ k : Nat, i = .int .i64 k ∧ k ≤ l.length ∧ (∀ j y, j < k → l[j]? = some y → nmB n y = false)) (fun i => l.length - (intOf i).toNat)
  case atStart => exact ⟨0, rfl, Nat.zero_le _, (fun j y hj => by omega)⟩
  case round =>
    obtain ⟨k, rfl, hk, hn⟩ := hrel
    have HN := Lib.hid hn
    clear hn
    by_cases hlt : k < l.length
    · obtain ⟨x, hx⟩ : ∃ x, l[k]? = some x := ⟨_, List.getElem?_eq_getElem hlt⟩
      obtain ⟨g, off, rfl, c0, c1, c2, c3, c4, c5, c6⟩ := RowsW.at HC.out hx
      have d0 := cell_below HB.out c0
      have d3 := cell_below HB.out c3
      have HX := Lib.hid hx
      clear hx c0 c1 c2 c3 c4 c5 c6
      rcases hp : nmB n x with _ | _
      · have HP := Lib.hid hp
        have hq : (x.name.toList == n.toList) = false := hp
        clear hp
        go_wp2
        go_round
        case rel =>
          refine ⟨k + 1, by go_num, by omega, fun j y hj hy => ?_⟩
          rcases Nat.lt_or_ge j k with h | h
          · exact HN.out j y h hy
          · obtain rfl : j = k := by omega
            obtain rfl : x = y := Option.some.inj (HX.out.symm.trans hy)
            exact HP.out
        case measure => simp [intOf]; omega
      · have HP := Lib.hid (findI_of HX.out hp HN.out)
        have hq : (x.name.toList == n.toList) = true := hp
        clear hp
        go_wp2
        go_ret
        exact ⟨ret_int HP.out.symm, HB.out⟩
    · have HP := Lib.hid (findI_none (p := nmB n) (l := l) (fun j y hj hy => HN.out j y (by omega) hy))
      go_wp2
      go_ret
      exact ⟨ret_int HP.out.symm, HB.out⟩
set_option maxRecDepth 100000 in
set_option maxHeartbeats 1000000 in
theorem rbno_any (room last : Int) (v : Value) (l : List Wk) (n : Int) (w : World) (hr : RowsW w v l) :
    Calls Tryz.prog 33 #[.agg #[.int .i64 room, .int .i64 last, v], .int .i64 n] w fun e w' => e = .returned (.int .i64 (findI (noB n) l)) ∧ Below w.heap.size w w' := by
  obtain ⟨a, cap, rfl, hl, hcell⟩ := hr
  have HC := Lib.hid hcell
  clear hcell
  go_enter Tryz.func33, Tryz.ntmps33
  go_upto_region 1 with fail
  obtain ⟨w1, hw1⟩ : ∃ w1 : World, w1 = w.alloc (.cells #[.int .i64 room, .int .i64 last, .slice a l.length cap] 29) := ⟨_, rfl⟩
  rw [← hw1]
  have HB := Lib.hid (show Below w.heap.size w w1 by rw [hw1]; exact box_below)
  have b2 : w1.cell? ⟨w.heap.size, 2, none⟩ = some (.slice a l.length cap) := by rw [hw1]; exact cell_alloc_at rfl
  clear hw1
  go_wp2
  go_loop [5] (fun i => ∃ k : Nat, i = .int .i64 k ∧ k ≤ l.length ∧ (∀ j y, j < k → l[j]? = some y → noB n y = false)) (fun i => l.length - (intOf i).toNat)
  case atStart => exact ⟨0, rfl, Nat.zero_le _, (fun j y hj => by omega)⟩
  case round =>
    obtain ⟨k, rfl, hk, hn⟩ := hrel
    have HN := Lib.hid hn
    clear hn
    by_cases hlt : k < l.length
    · obtain ⟨x, hx⟩ : ∃ x, l[k]? = some x := ⟨_, List.getElem?_eq_getElem hlt⟩
      obtain ⟨g, off, rfl, c0, c1, c2, c3, c4, c5, c6⟩ := RowsW.at HC.out hx
      have d0 := cell_below HB.out c0
      have d3 := cell_below HB.out c3
      have HX := Lib.hid hx
      clear hx c0 c1 c2 c3 c4 c5 c6
      rcases hp : noB n x with _ | _
      · have HP := Lib.hid hp
        have hq : (x.no == n) = false := hp
        clear hp
        go_wp2
        go_round
        case rel =>
          refine ⟨k + 1, by go_num, by omega, fun j y hj hy => ?_⟩
          rcases Nat.lt_or_ge j k with h | h
          · exact HN.out j y h hy
          · obtain rfl : j = k := by omega
            obtain rfl : x = y := Option.some.inj (HX.out.symm.trans hy)
            exact HP.out
        case measure => simp [intOf]; omega
      · have HP := Lib.hid (findI_of HX.out hp HN.out)
        have hq : (x.no == n) = true := hp
        clear hp
        go_wp2
        go_ret
        exact ⟨ret_int HP.out.symm, HB.out⟩
    · have HP := Lib.hid (findI_none (p := noB n) (l := l) (fun j y hj hy => HN.out j y (by omega) hy))
      go_wp2
      go_ret
      exact ⟨ret_int HP.out.symm, HB.out⟩

theorem wk_info (y : Wk) : (Tryz.prog.info? 33).map (·.size) = some (#[.int .i64 y.no, .int .i64 y.cls, .int .i64 y.op, .string y.name, .string y.plat, .bool y.paused, .int .u64 y.untl] : Array Value).size := by
  have h := worker_info
  obtain ⟨i0, hi, _, h1, _⟩ := info_parts h
  rw [hi]
  simp [h1]
theorem wk_one (y : Wk) : (#[.int .i64 y.no, .int .i64 y.cls, .int .i64 y.op, .string y.name, .string y.plat, .bool y.paused, .int .u64 y.untl] : Array Value).all (·.oneCell') = true := by simp [Value.oneCell']
/-- A whole worker is laid in the place of another one. -/
theorem flat_setRow {l : List Wk} {k : Nat} (hk : k < l.length) (y : Wk) : (flatW l).take (k * 7) ++ encW y ++ (flatW l).drop (k * 7 + 7) = flatW (l.set k y) := by
  have e1 : (flatW l).take (k * 7) = flatW (l.take k) := flat_take encW 7 encW_len l k
  have e2 : (flatW l).drop (k * 7 + 7) = flatW (l.drop (k + 1)) := by rw [show k * 7 + 7 = (k + 1) * 7 by omega]; exact flat_drop encW 7 encW_len l (k + 1)
  rw [e1, e2, List.set_eq_take_append_cons_drop, if_pos hk]
  simp [flatW]
theorem own_lower {w : World} {base base' size n : Nat} {e : TypeId} {v : Value} {xs : List Value} (h : w.ownsRow base e size v n xs) (hb : base' ≤ base) : w.ownsRow base' e size v n xs := by
  obtain ⟨hl, h0 | ⟨g, cap, cur, hv, hg, hr⟩⟩ := h
  · exact ⟨hl, .inl h0⟩
  · exact ⟨hl, .inr ⟨g, cap, cur, hv, Nat.le_trans hb hg, hr⟩⟩
theorem own_laid {w : World} {base g cap n o : Nat} {xs news : List Value} (h : w.ownsRow base 33 7 (.slice (some ⟨g, 0, none⟩) n cap) n xs) (ho : o + news.length ≤ xs.length) :
    (w.setCells g o news).ownsRow base 33 7 (.slice (some ⟨g, 0, none⟩) n cap) n (xs.take o ++ news ++ xs.drop (o + news.length)) := by
  obtain ⟨hl, ⟨h0, _⟩ | ⟨g', cap', cur, hv, hb, hh, hn, hcm, hcs, htk⟩⟩ := h
  · cases h0
  cases hv
  refine ⟨by simp; omega, .inr ⟨g, cap, _, rfl, hb, heap_setCells news o hh, hn, hcm, by rw [layC_size, hcs], ?_⟩⟩
  have hsz : o + news.length ≤ cur.size := by rw [hcs]; have := Nat.mul_le_mul_right 7 hn; omega
  rw [layC_list _ _ _ hsz, ← htk]
  have hc : cur.toList.length = cur.size := by simp
  have h7 : o + news.length ≤ n * 7 := by omega
  rw [List.take_append, List.take_append, List.take_take, List.take_take, List.length_take, List.length_append, List.length_take, Nat.min_eq_left (by omega : o ≤ n * 7), Nat.min_eq_right (by omega : o ≤ n * 7), Nat.min_eq_left (by omega : o ≤ cur.toList.length), List.take_of_length_le (by omega : news.length ≤ n * 7 - o), List.drop_take]
set_option maxRecDepth 100000 in
set_option maxHeartbeats 1000000 in
theorem rbset_any {base b : Nat} {v : Value} {s : Bk} (k : Nat) (x y : Wk) (w : World) (hB : BookAt 29 base w b v s) (hx : s.ws[k]? = some x) (hbase : base ≤ w.heap.size) :
    Calls Tryz.prog 61 #[.pointer (some ⟨b, 0, none⟩), .int .i64 k, .agg #[.int .i64 y.no, .int .i64 y.cls, .int .i64 y.op, .string y.name, .string y.plat, .bool y.paused, .int .u64 y.untl]] w (BookPost 29 base w b v (setS s k y) (.tuple #[])) := by
  have HB := Lib.hid hB
  have hk : k < s.ws.length := (List.getElem?_eq_some_iff.1 hx).1
  have hfew := hB.few
  obtain ⟨g, cap, rfl⟩ : ∃ g cap, v = .slice (some ⟨g, 0, none⟩) s.ws.length cap := by
    obtain ⟨_, ⟨_, h0⟩ | ⟨g, cap, cur, hv, _⟩⟩ := hB.own
    · omega
    · exact ⟨g, cap, hv⟩
  obtain ⟨i0, hi0, hz0, hz1, hz2⟩ := info_parts worker_info
  have hbw := hB.lt
  clear hB hx
  go_enter Tryz.func61, Tryz.ntmps61
  go_upto_region 1 with fail
  obtain ⟨w1, hw1⟩ : ∃ w1 : World, w1 = w.alloc (.cells #[.int .i64 y.no, .int .i64 y.cls, .int .i64 y.op, .string y.name, .string y.plat, .bool y.paused, .int .u64 y.untl] 33) := ⟨_, rfl⟩
  rw [← hw1]
  have HB1 := Lib.hid (show Below w.heap.size w w1 by rw [hw1]; exact box_below)
  have hz1' : w1.heap.size = w.heap.size + 1 := by rw [hw1]; simp
  have hy1 : w1.heap[w.heap.size]? = some (.cells #[.int .i64 y.no, .int .i64 y.cls, .int .i64 y.op, .string y.name, .string y.plat, .bool y.paused, .int .u64 y.untl] 33 (0, 0)) := by rw [hw1]; exact fr_alloc_at
  clear hw1
  have HA1 := Lib.hid (HB.out.below HB1.out)
  have c2 := HA1.out.c2
  have HZ := Lib.hid hz1'
  have HY := Lib.hid hy1
  clear hz1' hy1
  have HW1 := Lib.hid hbase
  have hbw1 : b < w1.heap.size := HA1.out.lt
  go_upto_region 2 with (at_builtin; refine wpList_append_lies _ rfl _ _ 27 rfl w1.heap.size 33 i0 _ 7 72 Tryz.underlying27 hi0 hz0 hz1 hz2 rfl (by decide) (.slice (some ⟨w1.heap.size, 0, none⟩) 0 0) 0 [] rfl ?c0 ⟨g, 0, none⟩ s.ws.length cap (flatW s.ws) rfl ?c1 ?c2 ?c3 ?c7 ?c4 ?c5 ?c6 (w1.heap.size + 1) ?c8 ?_; (case c0 => exact ⟨by simp, .inr ⟨w1.heap.size, 0, #[], rfl, Nat.le_refl _, fr_alloc_at, by decide, by decide, by simp, by simp⟩⟩); (case c1 => exact flatW_len _); (case c2 => exact clone_cells HA1.out.own); (case c3 => exact flatW_one _); (case c7 => omega); (case c4 => unfold maxLen; omega); (case c5 => omega); (case c6 => simp); (case c8 => simp); intro gg cap2 w2 hown hgrow hat hlt)
  rw [Nat.zero_add, List.nil_append] at hown
  have hgw : w1.heap.size ≤ gg := by
    rcases hat with h | h
    · simp only [Value.ownBlock, Option.some.injEq] at h; omega
    · omega
  have hb2 : Below w1.heap.size w1 w2 := ⟨hgrow.os, hgrow.tape, hgrow.output, by have := hgrow.size; simp at this; omega, fun k hk => (hgrow.block k (by simp; omega) (fun e => by simp [Value.ownBlock] at e; omega)).trans (Below.heap_alloc _ _ _ hk)⟩
  have HB2 := Lib.hid (HB1.out.trans (hb2.mono HB1.out.size))
  have HA2 := Lib.hid (HA1.out.below hb2)
  have hy2 : w2.heap[w.heap.size]? = some (.cells #[.int .i64 y.no, .int .i64 y.cls, .int .i64 y.op, .string y.name, .string y.plat, .bool y.paused, .int .u64 y.untl] 33 (0, 0)) := (hb2.block _ (by rw [HZ.out]; omega)).trans HY.out
  have HO := Lib.hid hown
  have HY2 := Lib.hid hy2
  have ht2 : w2.there gg (k * 7) 7 := by
    intro j hj
    obtain ⟨a', cap', hv', _, _, hlen, hc⟩ := own_cells HO.out
    cases hv'
    obtain ⟨u, hu⟩ : ∃ u, (flatW s.ws)[k * 7 + j]? = some u := ⟨_, List.getElem?_eq_getElem (by rw [flatW_len]; have := Nat.mul_le_mul_right 7 hk; omega)⟩
    obtain ⟨g', ha, _, _, h0, h1⟩ := hc _ _ hu
    cases ha
    exact ⟨by rw [h0]; rfl, h1⟩
  have HT2 := Lib.hid ht2
  have hg2 := HZ.out
  have HGW := Lib.hid (show w.heap.size < gg by omega)
  clear hown hgrow hat hlt hb2 hy2 ht2 hg2 hgw
  have k0 : (0 : Int) ≤ (k : Int) := by omega
  have k1 : (k : Int) < (s.ws.length : Int) := by omega
  go_upto_region 3 with (first
    | (refine wpList_load_agg 33 HY2.out Tryz.underlying33 rfl (wk_info y) rfl _ rfl rfl ?_)
    | (refine Go.wpList_store_mid rfl 33 _ _ rfl gg (k * 7) #[.int .i64 y.no, .int .i64 y.cls, .int .i64 y.op, .string y.name, .string y.plat, .bool y.paused, .int .u64 y.untl] rfl rfl HT2.out (wk_info y) (wk_one y) ?_))
  obtain ⟨w3, hw3⟩ : ∃ w3 : World, w3 = w2.setCells gg (k * 7) (encW y) := ⟨_, rfl⟩
  change Code.wp _ _ _ _ (w2.setCells gg (k * 7) (encW y))
  rw [← hw3]
  have hf3 : Fr [gg] w2 w3 := by rw [hw3]; exact Fr.setCells (.inl (by simp)) _ _ (Fr.refl _ w2)
  have hbg : b ≠ gg := by have := HGW.out; omega
  have hgg : g ≠ gg := by have := HGW.out; have := own_lt HB.out.own g (by simp [blk_slice]); omega
  have HA3 := Lib.hid (HA2.out.frame hf3 (by simp; exact hbg) (fun j hj => by rw [blk_slice, List.mem_singleton] at hj; subst hj; simp; exact hgg))
  have HO3 := Lib.hid (show w3.ownsRow base 33 7 (.slice (some ⟨gg, 0, none⟩) (s.ws.set k y).length cap2) (s.ws.set k y).length (flatW (s.ws.set k y)) by
    have h1 := own_laid HO.out (o := k * 7) (news := encW y) (by rw [flatW_len, encW_len]; have := Nat.mul_le_mul_right 7 hk; omega)
    rw [encW_len, flat_setRow hk] at h1
    rw [hw3, List.length_set]
    exact own_lower h1 (by have := HW1.out; have := HB1.out.size; omega))
  have HF3 := Lib.hid ((Fr.of_below (S := [gg]) HB2.out).trans hf3 (fun j hj => .inl hj))
  have c3 := HA3.out.c2
  have f3 := HA3.out.free 2
  have HBG := Lib.hid hbg
  have HH3 := Lib.hid HA3.out.heap
  clear hw3 hf3 hbg hgg c2
  go_wp2_with fail
  go_end0
  refine ⟨rfl, .slice (some ⟨gg, 0, none⟩) (s.ws.set k y).length cap2, ?_, ?_, fun j hj => ?_⟩
  · rw [show (.slice (some ⟨gg, 0, none⟩) s.ws.length cap2 : Value) = .slice (some ⟨gg, 0, none⟩) (s.ws.set k y).length cap2 by rw [List.length_set]]
    exact book_put (s := s) HB.out.le HH3.out HO3.out (by rw [blk_slice]; simp; exact HBG.out) (by rw [List.length_set]; omega)
  · refine Fr.setCell ⟨HF3.out.os, HF3.out.tape, HF3.out.output, HF3.out.size, fun j hj hn => HF3.out.block j hj (fun hm => ?_)⟩ (.inl (by simp)) _
    rw [List.mem_singleton] at hm
    have := HGW.out
    omega
  · rw [blk_slice, List.mem_singleton] at hj
    subst hj
    exact .inr (by have := HGW.out; omega)
end Go.Proofs.YtmijmfgclmaodaaGreatDoor
