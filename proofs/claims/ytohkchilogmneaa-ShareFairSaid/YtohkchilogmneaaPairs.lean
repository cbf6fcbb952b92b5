/-
  law15.pairs: the walk.
-/
import Derived.Test.YtohkchilogmneaaFair
import Derived.Test.YtohkchilogmneaaStore
import Derived.Deep.MidRow
namespace Go.Proofs.Ytohkchilogmneaa
open Go.RowKit

theorem lk_sz (L : Lk) : (Try.prog.info? 29).map (·.size) = some (lkC L).size := by
  rw [show (lkC L).size = 12 from rfl]
  kernel_rfl
theorem ws_sz (ws : Int → Int) : (Try.prog.info? 22).map (·.size) = some (wsC ws).size := by
  rw [show (wsC ws).size = 4 from rfl]
  kernel_rfl
theorem lk_one (L : Lk) : (lkC L).all (·.oneCell') = true := by simp [lkC, Value.oneCell']
/-- Looks, in a slice. -/
def LksAt (w : World) (v : Value) (ls : List Lk) : Prop := ∃ a cap, v = .slice a ls.length cap ∧ ∀ (k : Nat) L, ls[k]? = some L → ∃ g off, a = some ⟨g, off, none⟩ ∧ w.rangeAt g (off + k * 12) (lkC L).toList
theorem LksAt.below {w w' : World} {v : Value} {ls : List Lk} (h : LksAt w v ls) (hb : Below w.heap.size w w') : LksAt w' v ls := by
  obtain ⟨a, cap, rfl, hc⟩ := h
  exact ⟨a, cap, rfl, fun k L hL => by obtain ⟨g, off, ha, h0⟩ := hc k L hL; exact ⟨g, off, ha, fun j v hv => cell_below hb (h0 j v hv)⟩⟩
theorem LksAt.at {w : World} {v : Value} {ls : List Lk} (h : LksAt w v ls) {k : Nat} {L : Lk} (hL : ls[k]? = some L) : ∃ g off cap, v = .slice (some ⟨g, off, none⟩) ls.length cap ∧ w.rangeAt g (off + k * 12) (lkC L).toList := by
  obtain ⟨a, cap, rfl, hc⟩ := h
  obtain ⟨g, off, rfl, h0⟩ := hc k L hL
  exact ⟨g, off, cap, rfl, h0⟩
def PairsOk (ws : Int → Int) (q C : Int) (ls : List Lk) : Prop := ∀ (i j : Nat), j < i → i < 4 → ∀ (k : Nat) a last, ls[ls.length - 1]? = some last → ls[k]? = some a →
  (∀ (m : Nat) b, k ≤ m → ls[m]? = some b → b.b i = true ∧ b.b j = true ∧ b.d i = last.d i ∧ b.d j = last.d j) → FairOk ws q C a last i j
/-- So far, going back, both waited and nothing was dropped. -/
def Upto (ls : List Lk) (last : Lk) (i j K : Nat) : Prop := ∀ (m : Nat) b, K ≤ m → ls[m]? = some b → b.b i = true ∧ b.b j = true ∧ b.d i = last.d i ∧ b.d j = last.d j
theorem Upto.more {ls : List Lk} {last a : Lk} {i j K : Nat} (h : Upto ls last i j (K + 1)) (ha : ls[K]? = some a) (h1 : a.b i = true) (h2 : a.b j = true) (h3 : a.d i = last.d i) (h4 : a.d j = last.d j) : Upto ls last i j K := by
  intro m b hm hb
  rcases Nat.eq_or_lt_of_le hm with e | e
  · subst e
    rw [ha] at hb
    cases hb
    exact ⟨h1, h2, h3, h4⟩
  · exact h m b e hb
def QRel1 (w : World) (g : Nat) (i : Value) (wr : World) : Prop := ∃ I : Nat, g = 4 - I ∧ i = .int .i64 I ∧ I ≤ 4 ∧ Below w.heap.size w wr
def QRel2 (w : World) (I : Nat) (g : Nat) (j : Value) (wr : World) : Prop := ∃ J : Nat, g = I - J ∧ j = .int .i64 J ∧ J ≤ I ∧ Below w.heap.size w wr
def QRel3 (w : World) (ls : List Lk) (last : Lk) (I J : Nat) (g : Nat) (k : Value) (wr : World) : Prop := ∃ K : Nat, g = K ∧ k = .int .i64 ((K : Int) - 1) ∧ K ≤ ls.length ∧ Upto ls last I J K ∧ Below w.heap.size w wr
set_option maxRecDepth 100000 in
set_option maxHeartbeats 8000000 in
/-- THE WALK: pairs, where all were treated alike. -/
theorem pairs_any (ls : List Lk) (v : Value) (ws : Int → Int) (q C : Int) (W : World) (hL : LksAt W v ls) (hne : ls ≠ []) (hlen : ls.length ≤ 1000) (hw : ∀ i, 1 ≤ ws i ∧ ws i ≤ 16) (hq : 0 ≤ q ∧ q < 1048576) (hC : 0 ≤ C ∧ C < 1048576) (h : PairsOk ws q C ls) :
    Calls Try.prog 18 #[v, .agg (wsC ws), .int .i64 q, .int .i64 C] W (TrueBelow W) := by
  obtain ⟨last, hlast⟩ : ∃ L, ls[ls.length - 1]? = some L := ⟨_, List.getElem?_eq_getElem (by have := List.length_pos_iff.2 hne; omega)⟩
  have hpos := List.length_pos_iff.2 hne
  have HH := Lib.hid h
  have HQ := Lib.hid hq
  have HC := Lib.hid hC
  have HW := Lib.hid hw
  have HL := Lib.hid hL
  have HLAST := Lib.hid hlast
  obtain ⟨g, off, cap, rfl, hr⟩ := hL.at hlast
  have HR := Lib.hid (show (W.alloc (.cells (wsC ws) 22)).rangeAt g (off + (ls.length - 1) * 12) (lkC last).toList from fun j v hv => cell_below box_below (hr j v hv))
  have hlp1 : wrap64 ((ls.length : Int) - 1) = (ls.length : Int) - 1 := wrap_i64 (by omega)
  have hlp2 : ((ls.length : Int) - 1).toNat = ls.length - 1 := by omega
  clear h hq hC hw hL hlast hne hr
  go_enter Try.func18, Try.ntmps18
  have h0 : (0 : Int) ≤ (ls.length : Int) - 1 := by omega
  have h1 : (ls.length : Int) - 1 < (ls.length : Int) := by omega
  go_upto_region 2 with (first
    | (refine wpList_load_mid rfl 29 _ rfl g (off + (ls.length - 1) * 12) rfl (lkC last).toList _ HR.out Try.underlying29 rfl (lk_sz last) ?_)
    | (refine wpList_store_new rfl 29 _ _ rfl (W.heap.size + 1) (by simp) (lkC last) rfl rfl (lk_sz last) rfl (lk_one last) ?_))
  obtain ⟨w1, hw1⟩ : ∃ w1 : World, w1 = (W.alloc (.cells (wsC ws) 22)).alloc (.cells (lkC last) 29) := ⟨_, rfl⟩
  rw [← hw1]
  have HWS := Lib.hid (show w1.heap[W.heap.size]? = some (.cells (wsC ws) 22 (0, 0)) by rw [hw1]; exact fr_alloc_old fr_alloc_at)
  have HLA := Lib.hid (show w1.heap[W.heap.size + 1]? = some (.cells (lkC last) 29 (0, 0)) by rw [hw1]; exact heap_alloc_two W _ _)
  have HB1 := Lib.hid (show Below W.heap.size W w1 by rw [hw1]; exact box_below.alloc (by simp) _)
  have HL1 := Lib.hid (HL.out.below HB1.out)
  clear hw1 hlp2 h0 h1
  go_wp2_with fail
  go_loopg [10] 4 (fun g i wr => QRel1 w1 g i wr)
  case atStart => exact ⟨0, rfl, rfl, by omega, Below.refl _ _⟩
  case round =>
    obtain ⟨I, hg, rfl, hI, hb⟩ := hrel
    have HG1 := Lib.hid hg
    have HBI := Lib.hid hb
    clear hg hb
    by_cases hI4 : I < 4
    · have hIi : (I : Int) < 4 := by omega
      go_wp2_with fail
      go_loopg [11] I (fun g j wr => QRel2 w1 I g j wr)
      case atStart => exact ⟨0, rfl, rfl, by omega, HBI.out⟩
      case round =>
        obtain ⟨J, hg, rfl, hJ, hb⟩ := hrel
        have HG2 := Lib.hid hg
        have HBJ := Lib.hid hb
        clear hg hb
        by_cases hJI : J < I
        · have hJi : (J : Int) < 4 := by omega
          have hJI2 : (J : Int) < (I : Int) := by omega
          go_wp2_with fail
          go_loopg [12] ls.length (fun g k wr => QRel3 w1 ls last I J g k wr)
          case atStart => exact ⟨ls.length, rfl, rfl, Nat.le_refl _, (fun m b hm hb => by have := (List.getElem?_eq_some_iff.1 hb).1; omega), HBJ.out⟩
          case round =>
            obtain ⟨K, hg, rfl, hK, hU, hb⟩ := hrel
            have HG3 := Lib.hid hg
            have HU := Lib.hid hU
            have HBK := Lib.hid hb
            clear hg hU hb
            rcases K with _ | K
            · go_wp2_with fail
              go_roundg (I - (J + 1))
              case rel => exact ⟨J + 1, rfl, by go_num, by omega, HBK.out⟩
              case measure => have := HG2.out; omega
            · have hkk : (((K + 1 : Nat) : Int) - 1) = (K : Int) := by omega
              rw [hkk]
              obtain ⟨a, ha⟩ : ∃ a, ls[K]? = some a := ⟨_, List.getElem?_eq_getElem (by omega)⟩
              have HA := Lib.hid ha
              have hra := (HL1.out.below HBK.out).at ha
              obtain ⟨g', off', cap', hv, hra⟩ := hra
              cases hv
              have HRA := Lib.hid hra
              clear ha hra hkk
              have hKl : (K : Int) < (ls.length : Int) := by omega
              go_upto_region 12 with (first
                | (refine wpList_load_mid rfl 29 _ rfl g (off + K * 12) rfl (lkC a).toList _ HRA.out Try.underlying29 rfl (lk_sz a) ?_)
                | (refine wpList_store_new rfl 29 _ _ rfl wr.heap.size rfl (lkC a) rfl rfl (lk_sz a) rfl (lk_one a) ?_))
              obtain ⟨w2, hw2⟩ : ∃ w2 : World, w2 = wr.alloc (.cells (lkC a) 29) := ⟨_, rfl⟩
              obtain ⟨nb, hnb⟩ : ∃ nb : Nat, nb = wr.heap.size := ⟨_, rfl⟩
              rw [← hw2, ← hnb]
              simp only [Act.put]
              have hN : w2.heap[nb]? = some (.cells (lkC a) 29 (0, 0)) := by rw [hw2, hnb]; exact fr_alloc_at
              have HN := Lib.hid hN
              have HBK2 := Lib.hid (show Below w1.heap.size w1 w2 by rw [hw2]; exact HBK.out.alloc HBK.out.size _)
              have hl2 := (HBK2.out.block _ (fp_lt_of_heap HLA.out)).trans HLA.out
              have hs2 := (HBK2.out.block _ (fp_lt_of_heap HWS.out)).trans HWS.out
              have HL2 := Lib.hid hl2
              have HS2 := Lib.hid hs2
              have x1 : w2.cell? ⟨nb, 8 + I, none⟩ = some (.bool (a.b I)) := fr_cell_of_heap hN (lk_b a hI4)
              have x2 : w2.cell? ⟨nb, 8 + J, none⟩ = some (.bool (a.b J)) := fr_cell_of_heap hN (lk_b a (by omega))
              have x3 : w2.cell? ⟨nb, 4 + I, none⟩ = some (.int .i64 (a.d I)) := fr_cell_of_heap hN (lk_d a hI4)
              have x4 : w2.cell? ⟨nb, 4 + J, none⟩ = some (.int .i64 (a.d J)) := fr_cell_of_heap hN (lk_d a (by omega))
              have y3 : w2.cell? ⟨W.heap.size + 1, 4 + I, none⟩ = some (.int .i64 (last.d I)) := fr_cell_of_heap hl2 (lk_d last hI4)
              have y4 : w2.cell? ⟨W.heap.size + 1, 4 + J, none⟩ = some (.int .i64 (last.d J)) := fr_cell_of_heap hl2 (lk_d last (by omega))
              clear hw2 hnb hN hl2 hs2
              rcases e1 : a.b I with _ | _
              · rw [e1] at x1
                clear e1
                go_quiet (fail)
                go_wp2_with fail
                go_roundg (I - (J + 1))
                case rel => exact ⟨J + 1, rfl, by go_num, by omega, below_drewN HBK2.out _⟩
                case measure => have := HG2.out; omega
              · rcases e2 : a.b J with _ | _
                · rw [e1] at x1
                  rw [e2] at x2
                  clear e1 e2
                  go_quiet (fail)
                  go_wp2_with fail
                  go_roundg (I - (J + 1))
                  case rel => exact ⟨J + 1, rfl, by go_num, by omega, below_drewN HBK2.out _⟩
                  case measure => have := HG2.out; omega
                · by_cases e3 : a.d I = last.d I
                  · by_cases e4 : a.d J = last.d J
                    · have HU2 := Lib.hid (HU.out.more HA.out e1 e2 e3 e4)
                      rw [e1] at x1
                      rw [e2] at x2
                      rw [← e3] at y3
                      rw [← e4] at y4
                      have n3 : (a.d I != a.d I) = false := by simp
                      have n4 : (a.d J != a.d J) = false := by simp
                      clear e1 e2 e3 e4
                      go_quiet (fail)
                      clear x1 x2 x3 x4 y3 y4 n3 n4
                      go_wp2_with (first
                        | (refine wpList_load_agg 29 (w := w2.drewN nq) HN.out Try.underlying29 rfl (lk_sz a) rfl _ rfl rfl ?_)
                        | (refine wpList_load_agg 29 (w := w2.drewN nq) HL2.out Try.underlying29 rfl (lk_sz last) rfl _ rfl rfl ?_)
                        | (refine wpList_load_agg 22 (w := w2.drewN nq) HS2.out Try.underlying22 rfl (ws_sz ws) rfl _ rfl rfl ?_))
                      refine (fair_any a last I J hI4 (by omega) ws q C _ HW.out HQ.out HC.out (HH.out I J hJI hI4 K a last HLAST.out HA.out HU2.out)).mono ?_
                      rintro e w3 ⟨rfl, hb3⟩
                      have HB3 := Lib.hid ((below_drewN HBK2.out nq).trans (hb3.mono (Nat.le_trans HBK2.out.size (Nat.le_refl _))))
                      clear hb3
                      go_wp2_with fail
                      go_roundg K
                      case rel => exact ⟨K, rfl, rfl, by omega, HU2.out, HB3.out⟩
                      case measure => have := HG3.out; omega
                    · rw [e1] at x1
                      rw [e2] at x2
                      rw [← e3] at y3
                      have n3 : (a.d I != a.d I) = false := by simp
                      have n4 : (a.d J != last.d J) = true := by simpa using e4
                      clear e1 e2 e3 e4
                      go_quiet (fail)
                      go_wp2_with fail
                      go_roundg (I - (J + 1))
                      case rel => exact ⟨J + 1, rfl, by go_num, by omega, below_drewN HBK2.out _⟩
                      case measure => have := HG2.out; omega
                  · rw [e1] at x1
                    rw [e2] at x2
                    have n3 : (a.d I != last.d I) = true := by simpa using e3
                    clear e1 e2 e3
                    go_quiet (fail)
                    go_wp2_with fail
                    go_roundg (I - (J + 1))
                    case rel => exact ⟨J + 1, rfl, by go_num, by omega, below_drewN HBK2.out _⟩
                    case measure => have := HG2.out; omega
        · go_wp2_with fail
          go_roundg (4 - (I + 1))
          case rel => exact ⟨I + 1, rfl, by go_num, by omega, HBJ.out⟩
          case measure => have := HG1.out; omega
    · go_wp2_with fail
      go_ret
      exact ⟨rfl, HB1.out.trans (HBI.out.mono HB1.out.size)⟩
end Go.Proofs.Ytohkchilogmneaa
