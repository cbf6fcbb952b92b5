/-
  law16.near, law16.fair: the walks.
-/
import Derived.Test.YtohkchilogmneaaPairs

namespace Go.Proofs.Ytohkchilogmneaa
open Go.RowKit

/-- A look at three tenants, and three invocations of each. -/
structure Lt where
  t : Int → Int → Int
  d : Int → Int → Int
  b : Int → Int → Bool
def ltC (L : Lt) : Array Value := #[.int .i64 (L.t 0 0), .int .i64 (L.t 0 1), .int .i64 (L.t 0 2), .int .i64 (L.t 0 3), .int .i64 (L.t 1 0), .int .i64 (L.t 1 1), .int .i64 (L.t 1 2), .int .i64 (L.t 1 3), .int .i64 (L.t 2 0), .int .i64 (L.t 2 1), .int .i64 (L.t 2 2), .int .i64 (L.t 2 3), .int .i64 (L.d 0 0), .int .i64 (L.d 0 1), .int .i64 (L.d 0 2), .int .i64 (L.d 0 3), .int .i64 (L.d 1 0), .int .i64 (L.d 1 1), .int .i64 (L.d 1 2), .int .i64 (L.d 1 3), .int .i64 (L.d 2 0), .int .i64 (L.d 2 1), .int .i64 (L.d 2 2), .int .i64 (L.d 2 3), .bool (L.b 0 0), .bool (L.b 0 1), .bool (L.b 0 2), .bool (L.b 0 3), .bool (L.b 1 0), .bool (L.b 1 1), .bool (L.b 1 2), .bool (L.b 1 3), .bool (L.b 2 0), .bool (L.b 2 1), .bool (L.b 2 2), .bool (L.b 2 3)]
def w3C (w3 : Int → Int → Int) : Array Value := #[.int .i64 (w3 0 0), .int .i64 (w3 0 1), .int .i64 (w3 0 2), .int .i64 (w3 0 3), .int .i64 (w3 1 0), .int .i64 (w3 1 1), .int .i64 (w3 1 2), .int .i64 (w3 1 3), .int .i64 (w3 2 0), .int .i64 (w3 2 1), .int .i64 (w3 2 2), .int .i64 (w3 2 3)]
theorem lt_t (L : Lt) {u i : Nat} (hu : u < 3) (hi : i < 4) : (ltC L)[u * 4 + i]? = some (.int .i64 (L.t u i)) := by
  match u, i, hu, hi with
  | 0, 0, _, _ => rfl
  | 0, 1, _, _ => rfl
  | 0, 2, _, _ => rfl
  | 0, 3, _, _ => rfl
  | 1, 0, _, _ => rfl
  | 1, 1, _, _ => rfl
  | 1, 2, _, _ => rfl
  | 1, 3, _, _ => rfl
  | 2, 0, _, _ => rfl
  | 2, 1, _, _ => rfl
  | 2, 2, _, _ => rfl
  | 2, 3, _, _ => rfl
theorem lt_d (L : Lt) {u i : Nat} (hu : u < 3) (hi : i < 4) : (ltC L)[12 + u * 4 + i]? = some (.int .i64 (L.d u i)) := by
  match u, i, hu, hi with
  | 0, 0, _, _ => rfl
  | 0, 1, _, _ => rfl
  | 0, 2, _, _ => rfl
  | 0, 3, _, _ => rfl
  | 1, 0, _, _ => rfl
  | 1, 1, _, _ => rfl
  | 1, 2, _, _ => rfl
  | 1, 3, _, _ => rfl
  | 2, 0, _, _ => rfl
  | 2, 1, _, _ => rfl
  | 2, 2, _, _ => rfl
  | 2, 3, _, _ => rfl
theorem lt_b (L : Lt) {u i : Nat} (hu : u < 3) (hi : i < 4) : (ltC L)[24 + u * 4 + i]? = some (.bool (L.b u i)) := by
  match u, i, hu, hi with
  | 0, 0, _, _ => rfl
  | 0, 1, _, _ => rfl
  | 0, 2, _, _ => rfl
  | 0, 3, _, _ => rfl
  | 1, 0, _, _ => rfl
  | 1, 1, _, _ => rfl
  | 1, 2, _, _ => rfl
  | 1, 3, _, _ => rfl
  | 2, 0, _, _ => rfl
  | 2, 1, _, _ => rfl
  | 2, 2, _, _ => rfl
  | 2, 3, _, _ => rfl
theorem w3_at (w3 : Int → Int → Int) {u i : Nat} (hu : u < 3) (hi : i < 4) : (w3C w3)[u * 4 + i]? = some (.int .i64 (w3 u i)) := by
  match u, i, hu, hi with
  | 0, 0, _, _ => rfl
  | 0, 1, _, _ => rfl
  | 0, 2, _, _ => rfl
  | 0, 3, _, _ => rfl
  | 1, 0, _, _ => rfl
  | 1, 1, _, _ => rfl
  | 1, 2, _, _ => rfl
  | 1, 3, _, _ => rfl
  | 2, 0, _, _ => rfl
  | 2, 1, _, _ => rfl
  | 2, 2, _, _ => rfl
  | 2, 3, _, _ => rfl
theorem lt_sz (L : Lt) : (Try.prog.info? 67).map (·.size) = some (ltC L).size := by
  rw [show (ltC L).size = 36 from rfl]
  kernel_rfl
theorem lt_one (L : Lt) : (ltC L).all (·.oneCell') = true := by simp [ltC, Value.oneCell']
theorem w3_sz (w3 : Int → Int → Int) : (Try.prog.info? 61).map (·.size) = some (w3C w3).size := by
  rw [show (w3C w3).size = 12 from rfl]
  kernel_rfl
/-- Looks, in a slice. -/
def LtsAt (w : World) (v : Value) (ls : List Lt) : Prop := ∃ a cap, v = .slice a ls.length cap ∧ ∀ (k : Nat) L, ls[k]? = some L → ∃ g off, a = some ⟨g, off, none⟩ ∧ w.rangeAt g (off + k * 36) (ltC L).toList
theorem LtsAt.below {w w' : World} {v : Value} {ls : List Lt} (h : LtsAt w v ls) (hb : Below w.heap.size w w') : LtsAt w' v ls := by
  obtain ⟨a, cap, rfl, hc⟩ := h
  exact ⟨a, cap, rfl, fun k L hL => by obtain ⟨g, off, ha, h0⟩ := hc k L hL; exact ⟨g, off, ha, fun j v hv => cell_below hb (h0 j v hv)⟩⟩
theorem LtsAt.at {w : World} {v : Value} {ls : List Lt} (h : LtsAt w v ls) {k : Nat} {L : Lt} (hL : ls[k]? = some L) : ∃ g off cap, v = .slice (some ⟨g, off, none⟩) ls.length cap ∧ w.rangeAt g (off + k * 36) (ltC L).toList := by
  obtain ⟨a, cap, rfl, hc⟩ := h
  obtain ⟨g, off, rfl, h0⟩ := hc k L hL
  exact ⟨g, off, cap, rfl, h0⟩
/-- Two of a look, treated alike. -/
def NearOk (v w q C : Int) (a b : Lt) (t i u j : Int) : Prop :=
  (0 ≤ b.t t i - a.t t i ∧ b.t t i - a.t t i < 1048576) ∧ (0 ≤ b.t u j - a.t u j ∧ b.t u j - a.t u j < 1048576) ∧
  (b.t t i - a.t t i) * w ≤ (b.t u j - a.t u j) * v + (q * v * w + C * w + C * v) ∧ (b.t u j - a.t u j) * v ≤ (b.t t i - a.t t i) * w + (q * v * w + C * w + C * v)
set_option maxRecDepth 100000 in
set_option maxHeartbeats 2000000 in
/-- THE WALK: near, where it is so. -/
theorem near16_any (a b : Lt) (t i u j : Nat) (ht : t < 3) (hi : i < 4) (hu : u < 3) (hj : j < 4) (v w q C : Int) (W : World) (hv : 1 ≤ v ∧ v ≤ 16) (hw : 1 ≤ w ∧ w ≤ 16) (hq : 0 ≤ q ∧ q < 1048576) (hC : 0 ≤ C ∧ C < 1048576) (h : NearOk v w q C a b t i u j) :
    Calls Try.prog 93 #[.agg (ltC a), .agg (ltC b), .int .i64 t, .int .i64 i, .int .i64 u, .int .i64 j, .int .i64 v, .int .i64 w, .int .i64 q, .int .i64 C] W (TrueBelow W) := by
  obtain ⟨hx, hy, h1, h2⟩ := h
  obtain ⟨x, ex⟩ : ∃ x, x = b.t t i - a.t t i := ⟨_, rfl⟩
  obtain ⟨y, ey⟩ : ∃ y, y = b.t u j - a.t u j := ⟨_, rfl⟩
  rw [← ex] at hx h1 h2
  rw [← ey] at hy h1 h2
  have HN := Lib.hid (fun W => near_any x v y w q C W hx ⟨hv.1, by omega⟩ hy ⟨hw.1, by omega⟩ hq hC h1 h2)
  have e1 : wrap64 (b.t t i - a.t t i) = x := by rw [← ex]; exact wrap_i64 (by omega)
  have e2 : wrap64 (b.t u j - a.t u j) = y := by rw [← ey]; exact wrap_i64 (by omega)
  have u1 : IntKind.u64.wrap x = x := wrap_u64 (by omega)
  have u2 : IntKind.u64.wrap y = y := wrap_u64 (by omega)
  have u3 : IntKind.u64.wrap v = v := wrap_u64 (by omega)
  have u4 : IntKind.u64.wrap w = w := wrap_u64 (by omega)
  have u5 : IntKind.u64.wrap q = q := wrap_u64 (by omega)
  have u6 : IntKind.u64.wrap C = C := wrap_u64 (by omega)
  have ht2 : (t : Int) < 3 := by omega
  have hi2 : (i : Int) < 4 := by omega
  have hu2 : (u : Int) < 3 := by omega
  have hj2 : (j : Int) < 4 := by omega
  have HI := Lib.hid (And.intro ht (And.intro hi (And.intro hu hj)))
  have HU := Lib.hid (And.intro u3 (And.intro u4 (And.intro u5 u6)))
  clear ex ey hx hy h1 h2 hq hC hv hw u3 u4 u5 u6 ht hi hu hj
  go_enter Try.func93, Try.ntmps93
  go_upto_region 1 with fail
  obtain ⟨w1, hw1⟩ : ∃ w1 : World, w1 = (W.alloc (.cells (ltC a) 67)).alloc (.cells (ltC b) 67) := ⟨_, rfl⟩
  rw [← hw1]
  have hA : w1.heap[W.heap.size]? = some (.cells (ltC a) 67 (0, 0)) := by rw [hw1]; exact fr_alloc_old fr_alloc_at
  have hB : w1.heap[W.heap.size + 1]? = some (.cells (ltC b) 67 (0, 0)) := by rw [hw1]; exact heap_alloc_two W _ _
  have HB := Lib.hid (show Below W.heap.size W w1 by rw [hw1]; exact box_below.alloc (by simp) _)
  have a1 : w1.cell? ⟨W.heap.size, t * 4 + i, none⟩ = some (.int .i64 (a.t t i)) := fr_cell_of_heap hA (lt_t a HI.out.1 HI.out.2.1)
  have a2 : w1.cell? ⟨W.heap.size, u * 4 + j, none⟩ = some (.int .i64 (a.t u j)) := fr_cell_of_heap hA (lt_t a HI.out.2.2.1 HI.out.2.2.2)
  have b1 : w1.cell? ⟨W.heap.size + 1, t * 4 + i, none⟩ = some (.int .i64 (b.t t i)) := fr_cell_of_heap hB (lt_t b HI.out.1 HI.out.2.1)
  have b2 : w1.cell? ⟨W.heap.size + 1, u * 4 + j, none⟩ = some (.int .i64 (b.t u j)) := fr_cell_of_heap hB (lt_t b HI.out.2.2.1 HI.out.2.2.2)
  clear hw1 hA hB
  go_quiet (fail)
  clear a1 a2 b1 b2 e1 e2
  have u3 := HU.out.1
  have u4 := HU.out.2.1
  have u5 := HU.out.2.2.1
  have u6 := HU.out.2.2.2
  go_wp2_with fail
  refine (HN.out _).mono ?_
  rintro e w9 ⟨rfl, hb9⟩
  have HB9 := Lib.hid ((below_drewN HB.out nq).trans (hb9.mono HB.out.size))
  clear hb9
  go_wp2_with fail
  go_ret
  exact ⟨rfl, HB9.out⟩
/-- So far, going back, both waited and nothing was dropped. -/
def UptoT (ls : List Lt) (last : Lt) (t i u j : Int) (K : Nat) : Prop := ∀ (m : Nat) b, K ≤ m → ls[m]? = some b → b.b t i = true ∧ b.b u j = true ∧ b.d t i = last.d t i ∧ b.d u j = last.d u j
theorem UptoT.more {ls : List Lt} {last a : Lt} {t i u j : Int} {K : Nat} (h : UptoT ls last t i u j (K + 1)) (ha : ls[K]? = some a) (h1 : a.b t i = true) (h2 : a.b u j = true) (h3 : a.d t i = last.d t i) (h4 : a.d u j = last.d u j) : UptoT ls last t i u j K := by
  intro m b hm hb
  rcases Nat.eq_or_lt_of_le hm with e | e
  · subst e
    rw [ha] at hb
    cases hb
    exact ⟨h1, h2, h3, h4⟩
  · exact h m b e hb
def FairT (v w q C : Int) (ls : List Lt) (t i u j : Int) : Prop := ∀ (k : Nat) a last, ls[ls.length - 1]? = some last → ls[k]? = some a → UptoT ls last t i u j k → NearOk v w q C a last t i u j
def NrRel (w : World) (ls : List Lt) (last : Lt) (t i u j : Int) (g : Nat) (k : Value) (wr : World) : Prop := ∃ K : Nat, g = K ∧ k = .int .i64 ((K : Int) - 1) ∧ K ≤ ls.length ∧ UptoT ls last t i u j K ∧ Below w.heap.size w wr
set_option maxRecDepth 100000 in
set_option maxHeartbeats 8000000 in
/-- THE WALK: fair, where two were treated alike. -/
theorem fair16_any (ls : List Lt) (V : Value) (t i u j : Nat) (ht : t < 3) (hi : i < 4) (hu : u < 3) (hj : j < 4) (v w q C : Int) (W : World) (hL : LtsAt W V ls) (hne : ls ≠ []) (hlen : ls.length ≤ 1000) (hv : 1 ≤ v ∧ v ≤ 16) (hw : 1 ≤ w ∧ w ≤ 16) (hq : 0 ≤ q ∧ q < 1048576) (hC : 0 ≤ C ∧ C < 1048576) (h : FairT v w q C ls t i u j) :
    Calls Try.prog 70 #[V, .int .i64 t, .int .i64 i, .int .i64 u, .int .i64 j, .int .i64 v, .int .i64 w, .int .i64 q, .int .i64 C] W (TrueBelow W) := by
  obtain ⟨last, hlast⟩ : ∃ L, ls[ls.length - 1]? = some L := ⟨_, List.getElem?_eq_getElem (by have := List.length_pos_iff.2 hne; omega)⟩
  have hpos := List.length_pos_iff.2 hne
  have HH := Lib.hid h
  have HP := Lib.hid (And.intro hv (And.intro hw (And.intro hq hC)))
  have HI := Lib.hid (And.intro ht (And.intro hi (And.intro hu hj)))
  have HL := Lib.hid hL
  have HLAST := Lib.hid hlast
  obtain ⟨g, off, cap, rfl, hr⟩ := hL.at hlast
  have HR := Lib.hid hr
  have hlp1 : wrap64 ((ls.length : Int) - 1) = (ls.length : Int) - 1 := wrap_i64 (by omega)
  have hlp2 : ((ls.length : Int) - 1).toNat = ls.length - 1 := by omega
  have ht2 : (t : Int) < 3 := by omega
  have hi2 : (i : Int) < 4 := by omega
  have hu2 : (u : Int) < 3 := by omega
  have hj2 : (j : Int) < 4 := by omega
  clear h hq hC hw hv hL hlast hne hr ht hi hu hj
  go_enter Try.func70, Try.ntmps70
  have h0 : (0 : Int) ≤ (ls.length : Int) - 1 := by omega
  have h1 : (ls.length : Int) - 1 < (ls.length : Int) := by omega
  go_upto_region 2 with (first
    | (refine wpList_load_mid rfl 67 _ rfl g (off + (ls.length - 1) * 36) rfl (ltC last).toList _ HR.out Try.underlying67 rfl (lt_sz last) ?_)
    | (refine wpList_store_new rfl 67 _ _ rfl W.heap.size (by simp) (ltC last) rfl rfl (lt_sz last) rfl (lt_one last) ?_))
  obtain ⟨w1, hw1⟩ : ∃ w1 : World, w1 = W.alloc (.cells (ltC last) 67) := ⟨_, rfl⟩
  rw [← hw1]
  have HLA := Lib.hid (show w1.heap[W.heap.size]? = some (.cells (ltC last) 67 (0, 0)) by rw [hw1]; exact fr_alloc_at)
  have HB1 := Lib.hid (show Below W.heap.size W w1 by rw [hw1]; exact box_below)
  have HL1 := Lib.hid (HL.out.below HB1.out)
  clear hw1 hlp2 h0 h1
  go_wp2_with fail
  go_loopg [20] ls.length (fun g k wr => NrRel w1 ls last t i u j g k wr)
  case atStart => exact ⟨ls.length, rfl, rfl, Nat.le_refl _, (fun m b hm hb => by have := (List.getElem?_eq_some_iff.1 hb).1; omega), Below.refl _ _⟩
  case round =>
    obtain ⟨K, hg, rfl, hK, hU, hb⟩ := hrel
    have HG3 := Lib.hid hg
    have HU := Lib.hid hU
    have HBK := Lib.hid hb
    clear hg hU hb
    rcases K with _ | K
    · go_wp2_with fail
      go_ret
      exact ⟨rfl, HB1.out.trans (HBK.out.mono HB1.out.size)⟩
    · have hkk : (((K + 1 : Nat) : Int) - 1) = (K : Int) := by omega
      rw [hkk]
      obtain ⟨a, ha⟩ : ∃ a, ls[K]? = some a := ⟨_, List.getElem?_eq_getElem (by omega)⟩
      have HA := Lib.hid ha
      have hra := (HL1.out.below HBK.out).at ha
      obtain ⟨g', off', cap', hv, hra⟩ := hra
      cases hv
      have HRA := Lib.hid hra
      clear ha hra hkk
      have hKl : (K : Int) < (ls.length : Int) := by omega
      go_upto_region 6 with (first
        | (refine wpList_load_mid rfl 67 _ rfl g (off + K * 36) rfl (ltC a).toList _ HRA.out Try.underlying67 rfl (lt_sz a) ?_)
        | (refine wpList_store_new rfl 67 _ _ rfl wr.heap.size rfl (ltC a) rfl rfl (lt_sz a) rfl (lt_one a) ?_))
      obtain ⟨w2, hw2⟩ : ∃ w2 : World, w2 = wr.alloc (.cells (ltC a) 67) := ⟨_, rfl⟩
      obtain ⟨nb, hnb⟩ : ∃ nb : Nat, nb = wr.heap.size := ⟨_, rfl⟩
      rw [← hw2, ← hnb]
      simp only [Act.put]
      have hN : w2.heap[nb]? = some (.cells (ltC a) 67 (0, 0)) := by rw [hw2, hnb]; exact fr_alloc_at
      have HN := Lib.hid hN
      have HBK2 := Lib.hid (show Below w1.heap.size w1 w2 by rw [hw2]; exact HBK.out.alloc HBK.out.size _)
      have hl2 := (HBK2.out.block _ (fp_lt_of_heap HLA.out)).trans HLA.out
      have HL2 := Lib.hid hl2
      obtain ⟨i0, i1, i2, i3⟩ := HI.out
      have x1 : w2.cell? ⟨nb, 24 + t * 4 + i, none⟩ = some (.bool (a.b t i)) := fr_cell_of_heap hN (lt_b a i0 i1)
      have x2 : w2.cell? ⟨nb, 24 + u * 4 + j, none⟩ = some (.bool (a.b u j)) := fr_cell_of_heap hN (lt_b a i2 i3)
      have x3 : w2.cell? ⟨nb, 12 + t * 4 + i, none⟩ = some (.int .i64 (a.d t i)) := fr_cell_of_heap hN (lt_d a i0 i1)
      have x4 : w2.cell? ⟨nb, 12 + u * 4 + j, none⟩ = some (.int .i64 (a.d u j)) := fr_cell_of_heap hN (lt_d a i2 i3)
      have y3 : w2.cell? ⟨W.heap.size, 12 + t * 4 + i, none⟩ = some (.int .i64 (last.d t i)) := fr_cell_of_heap hl2 (lt_d last i0 i1)
      have y4 : w2.cell? ⟨W.heap.size, 12 + u * 4 + j, none⟩ = some (.int .i64 (last.d u j)) := fr_cell_of_heap hl2 (lt_d last i2 i3)
      clear hw2 hnb hN hl2 i0 i1 i2 i3
      rcases e1 : a.b t i with _ | _
      · rw [e1] at x1
        clear e1
        go_quiet (fail)
        go_wp2_with fail
        go_ret
        exact ⟨rfl, HB1.out.trans ((below_drewN HBK2.out _).mono HB1.out.size)⟩
      · rcases e2 : a.b u j with _ | _
        · rw [e1] at x1
          rw [e2] at x2
          clear e1 e2
          go_quiet (fail)
          go_wp2_with fail
          go_ret
          exact ⟨rfl, HB1.out.trans ((below_drewN HBK2.out _).mono HB1.out.size)⟩
        · by_cases e3 : a.d t i = last.d t i
          · by_cases e4 : a.d u j = last.d u j
            · have HU2 := Lib.hid (HU.out.more HA.out e1 e2 e3 e4)
              rw [e1] at x1
              rw [e2] at x2
              rw [← e3] at y3
              rw [← e4] at y4
              have n3 : (a.d t i != a.d t i) = false := by simp
              have n4 : (a.d u j != a.d u j) = false := by simp
              clear e1 e2 e3 e4
              go_quiet (fail)
              clear x1 x2 x3 x4 y3 y4 n3 n4
              go_wp2_with (first
                | (refine wpList_load_agg 67 (w := w2.drewN nq) HN.out Try.underlying67 rfl (lt_sz a) rfl _ rfl rfl ?_)
                | (refine wpList_load_agg 67 (w := w2.drewN nq) HL2.out Try.underlying67 rfl (lt_sz last) rfl _ rfl rfl ?_))
              refine (near16_any a last t i u j HI.out.1 HI.out.2.1 HI.out.2.2.1 HI.out.2.2.2 v w q C _ HP.out.1 HP.out.2.1 HP.out.2.2.1 HP.out.2.2.2 (HH.out K a last HLAST.out HA.out HU2.out)).mono ?_
              rintro e w3 ⟨rfl, hb3⟩
              have HB3 := Lib.hid ((below_drewN HBK2.out nq).trans (hb3.mono (Nat.le_trans HBK2.out.size (Nat.le_refl _))))
              clear hb3
              go_wp2_with fail
              go_roundg K
              case rel => exact ⟨K, rfl, rfl, by omega, HU2.out, HB3.out⟩
              case measure => have := HG3.out; omega
            · rw [e1] at x1
              rw [e2] at x2
              rw [← e3] at y3
              have n3 : (a.d t i != a.d t i) = false := by simp
              have n4 : (a.d u j != last.d u j) = true := by simpa using e4
              clear e1 e2 e3 e4
              go_quiet (fail)
              go_wp2_with fail
              go_ret
              exact ⟨rfl, HB1.out.trans ((below_drewN HBK2.out _).mono HB1.out.size)⟩
          · rw [e1] at x1
            rw [e2] at x2
            have n3 : (a.d t i != last.d t i) = true := by simpa using e3
            clear e1 e2 e3
            go_quiet (fail)
            go_wp2_with fail
            go_ret
            exact ⟨rfl, HB1.out.trans ((below_drewN HBK2.out _).mono HB1.out.size)⟩
end Go.Proofs.Ytohkchilogmneaa
