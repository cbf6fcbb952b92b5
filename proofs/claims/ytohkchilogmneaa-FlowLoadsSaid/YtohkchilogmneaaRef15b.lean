/-
  ref15 (flows): with: the walk.
-/
import Derived.Test.YtohkchilogmneaaRef15
namespace Go.Proofs.Ytohkchilogmneaa
open Go.RowKit
variable {G : Nat → Prop}

def withV (k : Nat) (p : FRow × Value) (gv : Bool) (l : List (FRow × Value)) : Bool × List (FRow × Value) := if p.1.its = [] then (if k = 0 then false else gv, l.eraseIdx k) else (gv, l.set k p)
theorem withV_rows (k : Nat) (p : FRow × Value) (gv : Bool) (l : List (FRow × Value)) : (withV k p gv l).1 = (withR k p.1 gv (l.map Prod.fst)).1 ∧ (withV k p gv l).2.map Prod.fst = (withR k p.1 gv (l.map Prod.fst)).2 := by
  unfold withV withR
  split
  · exact ⟨rfl, eraseIdx_map' _ _ _⟩
  · exact ⟨rfl, set_map _ _ _ _⟩
/-- The list as far as it is built. -/
def builtV (k : Nat) (p : FRow × Value) (l : List (FRow × Value)) (i : Nat) : List (FRow × Value) := if i ≤ k then l.take i else if p.1.its = [] then (l.take i).eraseIdx k else (l.take i).set k p
theorem erase_app {α : Type} : ∀ (l : List α) (y : α) (k : Nat), k < l.length → (l ++ [y]).eraseIdx k = l.eraseIdx k ++ [y]
  | [], _, _, h => by simp at h
  | _ :: _, _, 0, _ => rfl
  | x :: l, y, k + 1, h => by
    simp at h
    simp [erase_app l y k h]
theorem set_app {α : Type} : ∀ (l : List α) (y x : α) (k : Nat), k < l.length → (l ++ [y]).set k x = l.set k x ++ [y]
  | [], _, _, _, h => by simp at h
  | _ :: _, _, _, 0, _ => rfl
  | z :: l, y, x, k + 1, h => by
    simp at h
    simp [set_app l y x k h]
theorem erase_lastV {α : Type} : ∀ (l : List α) (y : α), (l ++ [y]).eraseIdx l.length = l
  | [], _ => rfl
  | x :: l, y => by simp [erase_lastV l y]
theorem set_last {α : Type} : ∀ (l : List α) (y x : α), (l ++ [y]).set l.length x = l ++ [x]
  | [], _, _ => rfl
  | z :: l, y, x => by simp [set_last l y x]
theorem built_other {k i : Nat} {p y : FRow × Value} {l : List (FRow × Value)} (hy : l[i]? = some y) (hik : i ≠ k) : builtV k p l (i + 1) = builtV k p l i ++ [y] := by
  have hi : i < l.length := (List.getElem?_eq_some_iff.1 hy).1
  have ht : l.take (i + 1) = l.take i ++ [y] := by rw [List.take_succ_eq_append_getElem hi, (List.getElem?_eq_some_iff.1 hy).2]
  unfold builtV
  by_cases h : i < k
  · rw [if_pos (show i + 1 ≤ k by omega), if_pos (show i ≤ k by omega), ht]
  · have hl : k < (l.take i).length := by rw [List.length_take]; omega
    rw [if_neg (show ¬ i + 1 ≤ k by omega), if_neg (show ¬ i ≤ k by omega), ht]
    split
    · exact erase_app _ _ _ hl
    · exact set_app _ _ _ _ hl
theorem built_same {k : Nat} {p : FRow × Value} {l : List (FRow × Value)} (hk : k < l.length) : builtV k p l (k + 1) = builtV k p l k ++ (if p.1.its = [] then [] else [p]) := by
  have ht : l.take (k + 1) = l.take k ++ [l[k]] := List.take_succ_eq_append_getElem hk
  have hl : (l.take k).length = k := by rw [List.length_take]; omega
  unfold builtV
  rw [if_neg (by omega), if_pos (Nat.le_refl _), ht]
  split
  · have h := erase_lastV (l.take k) l[k]
    rw [hl] at h
    rw [h, List.append_nil]
  · have h := set_last (l.take k) l[k] p
    rw [hl] at h
    exact h
theorem built_all {k : Nat} {p : FRow × Value} {gv : Bool} {l : List (FRow × Value)} (hk : k < l.length) : builtV k p l l.length = (withV k p gv l).2 := by
  unfold builtV withV
  rw [if_neg (by omega), List.take_of_length_le (Nat.le_refl _)]
  split <;> rfl
theorem built_len {k i : Nat} {p : FRow × Value} {l : List (FRow × Value)} : (builtV k p l i).length ≤ i := by
  unfold builtV
  split
  · rw [List.length_take]; omega
  · split
    · exact Nat.le_trans (List.length_eraseIdx_le _ _) (by rw [List.length_take]; omega)
    · rw [List.length_set, List.length_take]; omega
theorem with_mem {k : Nat} {p y : FRow × Value} {gv : Bool} {l : List (FRow × Value)} (h : y ∈ (withV k p gv l).2) : y ∈ l ∨ y = p := by
  unfold withV at h
  split at h
  · exact .inl (List.mem_of_mem_eraseIdx h)
  · exact mem_set h
theorem with_len {k : Nat} {p : FRow × Value} {gv : Bool} {l : List (FRow × Value)} : (withV k p gv l).2.length ≤ l.length := by
  unfold withV
  split
  · exact List.length_eraseIdx_le _ _
  · rw [List.length_set]; exact Nat.le_refl _
theorem rrow_info : (Try.prog.info? 56).map (fun i => (i.zero, i.size, i.bytes)) = some (some (.agg #[.int .i64 0, .int .i64 0, .int .i64 0, .slice none 0 0]), 4, 48) := by kernel_rfl
def WithPost (G : Nat → Prop) (b : Nat) (q : Int) (s : Bool × List (FRow × Value)) (w : World) (e : Ending) (w' : World) : Prop := e = .returned (.tuple #[]) ∧ Fp (fun j => j = b) w w' ∧ ∃ v', RefAt G w' b q s.1 v' s.2
theorem with_close {b k base : Nat} {q : Int} {gv : Bool} {v vx vo : Value} {l : List (FRow × Value)} {x : FRow} {w wr w3 : World} (hR : RefAt G w b q gv v l) (hB : Below w.heap.size w wr) (hx : ItsAt w vx x.its) (hxb : InG G w vx) (hxf : x.its.length ≤ 1000000)
    (ho : wr.ownsRow base 56 4 vo (withV k (x, vx) gv l).2.length (flatRV (withV k (x, vx) gv l).2)) (hbase : w.heap.size ≤ base) (hF : Fp (fun j => j = b) wr w3) (hh : w3.heap[b]? = some (.cells #[.int .i64 q, vo, .bool (withV k (x, vx) gv l).1] 53 (0, 0))) :
    WithPost G b q (withV k (x, vx) gv l) w (.returned (.tuple #[])) w3 := by
  have hbw := fp_lt_of_heap hR.head
  have hsz := Nat.le_trans hB.size hF.size
  have hvg : InG G w3 vo := (own_inG ho (fun k hk => hR.up k (Nat.le_trans hbase hk))).grow hF.size
  have hig : ∀ p ∈ (withV k (x, vx) gv l).2, InG G w3 p.2 := fun p hp => by
    rcases with_mem hp with h | rfl
    · exact (hR.ig p h).grow hsz
    · exact hxb.grow hsz
  have hvo : vo.ownBlock ≠ some b := hvg.not hR.nb
  have hib : ∀ p ∈ (withV k (x, vx) gv l).2, p.2.ownBlock ≠ some b := fun p hp => (hig p hp).not hR.nb
  refine ⟨rfl, (Fp.of_below hB).trans hF (fun _ _ h => h), vo, ⟨hh, ?_, fun _ => hvg, hig, hR.nb, fun k hk => hR.up k (Nat.le_trans hsz hk), Nat.le_trans with_len hR.few, fun p hp => ?_⟩⟩
  · refine (rows_own ho (fun p hp => ?_)).fp hF (fun j hj e => hvo (e ▸ hj)) (fun p hp j hj e => hib p hp (e ▸ hj))
    rcases with_mem hp with h | rfl
    · exact (hR.rows.its p h).below hB
    · exact hx.below hB
  · rcases with_mem hp with h | rfl
    · exact hR.fews p h
    · exact hxf
set_option maxRecDepth 100000 in
set_option maxHeartbeats 4000000 in
/-- THE WALK: with. -/
theorem r15With_any (b : Nat) (q : Int) (gv : Bool) (v : Value) (l : List (FRow × Value)) (k : Nat) (x : FRow) (vx : Value) (w : World) (h : RefAt G w b q gv v l) (hk : k < l.length) (hx : ItsAt w vx x.its) (hxb : InG G w vx) (hxf : x.its.length ≤ 1000000) :
    Calls Try.prog 89 #[.pointer (some ⟨b, 0, none⟩), .int .i64 k, .agg #[.int .i64 x.id, .int .i64 x.wt, .int .i64 x.df, vx]] w (WithPost G b q (withV k (x, vx) gv l) w) := by
  have HX := Lib.hid hx
  have HXB := Lib.hid hxb
  have HXF := Lib.hid hxf
  obtain ⟨xa, xc, rfl⟩ := its_form hx
  have HR := Lib.hid (h.below (box_below (o := .cells #[.int .i64 x.id, .int .i64 x.wt, .int .i64 x.df, .slice xa x.its.length xc] 56)))
  have HR0 := Lib.hid h
  have hbw := fp_lt_of_heap h.head
  obtain ⟨a, cap, rfl, -⟩ := h.rows.form
  have HF := Lib.hid h.few
  have HK := Lib.hid hk
  clear h hx hxb hxf hk
  go_enter Try.func89, Try.ntmps89
  go_wp2_with fail
  obtain ⟨w1, hw1⟩ : ∃ w1 : World, w1 = w.alloc (.cells #[.int .i64 x.id, .int .i64 x.wt, .int .i64 x.df, .slice xa x.its.length xc] 56) := ⟨_, rfl⟩
  have hz1 : w1.heap.size = w.heap.size + 1 := by rw [hw1]; simp
  rw [← hw1] at HR ⊢
  have HXC := Lib.hid (show w1.heap[w.heap.size]? = some (.cells #[.int .i64 x.id, .int .i64 x.wt, .int .i64 x.df, .slice xa x.its.length xc] 56 (0, 0)) by rw [hw1]; exact fr_alloc_at)
  have HB1 := Lib.hid (show Below w.heap.size w w1 by rw [hw1]; exact box_below)
  have HST := Lib.hid (show (w1.alloc (.cells #[] 56)).ownsRow w1.heap.size 56 4 (.slice (some ⟨w1.heap.size, 0, none⟩) 0 0) 0 [] from own_empty (Nat.le_refl _))
  have HZ1 := Lib.hid hz1
  rw [← hz1]
  clear hw1 hz1
  go_loopg [7, 6] l.length (fun g i ov wr => ∃ m : Nat, g = l.length - m ∧ i = .int .i64 m ∧ m ≤ l.length ∧ wr.ownsRow w1.heap.size 56 4 ov (builtV k (x, .slice xa x.its.length xc) l m).length (flatRV (builtV k (x, .slice xa x.its.length xc) l m)) ∧ Below w1.heap.size w1 wr)
  case atStart => exact ⟨0, rfl, rfl, Nat.zero_le _, by unfold builtV; rw [if_pos (Nat.zero_le _)]; exact HST.out, box_below⟩
  case round =>
    obtain ⟨m, hg, rfl, hm, ho, hb⟩ := hrel
    have HG := Lib.hid hg
    have HO := Lib.hid ho
    have HB := Lib.hid hb
    clear hg ho hb
    have hh := (HB.out.block b (fp_lt_of_heap HR.out.head)).trans HR.out.head
    have b1 : wr.cell? ⟨b, 1, none⟩ = some (.slice a l.length cap) := fr_cell_of_heap hh rfl
    have HH := Lib.hid hh
    have hxc := (HB.out.block w.heap.size (fp_lt_of_heap HXC.out)).trans HXC.out
    have HXC2 := Lib.hid hxc
    have hlen := built_len (k := k) (i := m) (p := (x, .slice xa x.its.length xc)) (l := l)
    have hf := HF.out
    have hc1 : w1.heap.size ≤ wr.heap.size := HB.out.size
    have hc2 : (builtV k (x, .slice xa x.its.length xc) l m).length < 140737488355328 := by omega
    have hc3 : ((builtV k (x, .slice xa x.its.length xc) l m).length + 1) * 48 ≤ 140737488355328 := by omega
    clear hh hxc hlen
    by_cases hlt : m < l.length
    · have hml : (m : Int) < (l.length : Int) := by omega
      obtain ⟨p, hp⟩ : ∃ p, l[m]? = some p := ⟨_, List.getElem?_eq_getElem hlt⟩
      by_cases hmk : m = k
      · have hne : ((m : Int) != (k : Int)) = false := by simp [hmk]
        have HBS := Lib.hid (show builtV k (x, .slice xa x.its.length xc) l (m + 1) = builtV k (x, .slice xa x.its.length xc) l m ++ (if x.its = [] then [] else [(x, .slice xa x.its.length xc)]) by rw [hmk]; exact built_same HK.out)
        have x0 : wr.cell? ⟨w.heap.size, 0, none⟩ = some (.int .i64 x.id) := fr_cell_of_heap HXC2.out rfl
        have x1 : wr.cell? ⟨w.heap.size, 1, none⟩ = some (.int .i64 x.wt) := fr_cell_of_heap HXC2.out rfl
        have x2 : wr.cell? ⟨w.heap.size, 2, none⟩ = some (.int .i64 x.df) := fr_cell_of_heap HXC2.out rfl
        have x3 : wr.cell? ⟨w.heap.size, 3, none⟩ = some (.slice xa x.its.length xc) := fr_cell_of_heap HXC2.out rfl
        obtain ⟨D, hD⟩ : ∃ D, D = builtV k (x, .slice xa x.its.length xc) l m := ⟨_, rfl⟩
        rw [← hD] at hc2 hc3 HO HBS
        clear hp hmk hD
        by_cases hxe : x.its = []
        · have hgt : ¬ (0 : Int) < (x.its.length : Int) := by rw [hxe]; simp
          have HBS2 := Lib.hid (show builtV k (x, .slice xa x.its.length xc) l (m + 1) = D by rw [HBS.out, if_pos hxe, List.append_nil])
          clear hxe
          go_wp2_with fail
          go_roundg (l.length - (m + 1))
          case rel => exact ⟨m + 1, rfl, by go_num, by omega, by rw [HBS2.out]; exact HO.out, HB.out⟩
          case measure => have := HG.out; omega
        · have hgt : (0 : Int) < (x.its.length : Int) := by have := List.length_pos_iff.2 hxe; omega
          have HBS2 := Lib.hid (show builtV k (x, .slice xa x.its.length xc) l (m + 1) = D ++ [(x, .slice xa x.its.length xc)] by rw [HBS.out, if_neg hxe])
          clear hxe
          go_wp2_with (at_builtin; refine wpList_append_at (us := #[.int .i64 x.id, .int .i64 x.wt, .int .i64 x.df, .slice xa x.its.length xc]) rfl _ _ 51 rfl w1.heap.size _ 4 48 Try.underlying51 rrow_info rfl (by decide) u6 D.length (flatRV D) rfl HO.out rfl rfl (by simp [Value.oneCell']) ?c1 ?c2 ?c3 ?_; (case c1 => exact hc1); (case c2 => exact hc2); (case c3 => exact hc3); intro gg gcap w3 ho3 hg3 hat3)
          have HO3 := Lib.hid ho3
          have HB3 := Lib.hid (HB.out.trans ⟨hg3.os, hg3.tape, hg3.output, hg3.size, fun j hj => hg3.block j (by omega) (fun e => by have := own_block HO.out j e.symm; omega)⟩ : Below w1.heap.size w1 w3)
          clear ho3 hg3 hat3
          go_wp2_with fail
          go_roundg (l.length - (m + 1))
          case rel => exact ⟨m + 1, rfl, by go_num, by omega, by rw [HBS2.out, List.length_append, flatRV_snoc]; exact HO3.out, HB3.out⟩
          case measure => have := HG.out; omega
      · have hne : ((m : Int) != (k : Int)) = true := by simp; omega
        have HBS := Lib.hid (built_other (p := (x, .slice xa x.its.length xc)) hp hmk)
        obtain ⟨g, off, cap', hv, _, c0, c1, c2, c3⟩ := (HR.out.rows.below (HB.out.mono (Nat.le_refl _))).at hp
        cases hv
        obtain ⟨pa, pc, hpv⟩ := its_form (HR.out.rows.its p (List.mem_of_getElem? hp))
        rw [hpv] at c3
        have HPV := Lib.hid hpv
        obtain ⟨D, hD⟩ : ∃ D, D = builtV k (x, .slice xa x.its.length xc) l m := ⟨_, rfl⟩
        rw [← hD] at hc2 hc3 HO HBS
        clear hp hmk hD hpv
        go_wp2_with (at_builtin; refine wpList_append_at (us := #[.int .i64 p.1.id, .int .i64 p.1.wt, .int .i64 p.1.df, .slice pa p.1.its.length pc]) rfl _ _ 51 rfl w1.heap.size _ 4 48 Try.underlying51 rrow_info rfl (by decide) u6 D.length (flatRV D) rfl HO.out rfl rfl (by simp [Value.oneCell']) ?c1 ?c2 ?c3 ?_; (case c1 => exact hc1); (case c2 => exact hc2); (case c3 => exact hc3); intro gg gcap w3 ho3 hg3 hat3)
        have HO3 := Lib.hid ho3
        have HB3 := Lib.hid (HB.out.trans ⟨hg3.os, hg3.tape, hg3.output, hg3.size, fun j hj => hg3.block j (by omega) (fun e => by have := own_block HO.out j e.symm; omega)⟩ : Below w1.heap.size w1 w3)
        clear ho3 hg3 hat3
        go_wp2_with fail
        go_roundg (l.length - (m + 1))
        case rel => exact ⟨m + 1, rfl, by go_num, by omega, by rw [HBS.out, List.length_append, flatRV_snoc, show encRV p = [.int .i64 p.1.id, .int .i64 p.1.wt, .int .i64 p.1.df, .slice pa p.1.its.length pc] by unfold encRV; rw [HPV.out]]; exact HO3.out, HB3.out⟩
        case measure => have := HG.out; omega
    · obtain rfl : m = l.length := by omega
      obtain ⟨ua, uc, hu, hul, -⟩ := own_cells HO.out
      have HW := Lib.hid (show wr.ownsRow w1.heap.size 56 4 u6 (withV k (x, .slice xa x.its.length xc) gv l).2.length (flatRV (withV k (x, .slice xa x.its.length xc) gv l).2) by rw [← built_all HK.out]; exact HO.out)
      obtain ⟨n, hn⟩ : ∃ n, n = (builtV k (x, .slice xa x.its.length xc) l l.length).length := ⟨_, rfl⟩
      rw [← hn] at hu
      subst hu
      have HBB := Lib.hid (HB1.out.trans (HB.out.mono HB1.out.size) : Below w.heap.size w wr)
      have x3 : wr.cell? ⟨w.heap.size, 3, none⟩ = some (.slice xa x.its.length xc) := fr_cell_of_heap HXC2.out rfl
      have b2 : wr.cell? ⟨b, 2, none⟩ = some (.bool gv) := fr_cell_of_heap HH.out rfl
      have f1 : wr.frozen? ⟨b, 1, none⟩ = false := fr_free_of_heap HH.out
      have f2 : wr.frozen? ⟨b, 2, none⟩ = false := fr_free_of_heap HH.out
      clear hn hul hc1 hc2 hc3
      by_cases hc : k = 0 ∧ x.its = []
      · have hk0 : ((k : Int) == 0) = true := by simp [hc.1]
        have hx0 : ((x.its.length : Int) == 0) = true := by simp [hc.2]
        have HG1 := Lib.hid (show (withV k (x, .slice xa x.its.length xc) gv l).1 = false by unfold withV; rw [if_pos hc.2, if_pos hc.1])
        clear hc
        go_upto_region 11 with fail
        obtain ⟨w2, hw2⟩ : ∃ w2 : World, w2 = wr.setCell ⟨b, 2, none⟩ (.bool false) := ⟨_, rfl⟩
        have hh2 : w2.heap[b]? = some (.cells #[.int .i64 q, .slice a l.length cap, .bool false] 53 (0, 0)) := by rw [hw2]; exact fr_setCell_at HH.out
        have HF2 := Lib.hid (show Fp (fun j => j = b) wr w2 by rw [hw2]; exact (Fp.refl (fun j => j = b) wr).setCell (p := ⟨b, 2, none⟩) (fun _ => rfl) _)
        rw [← hw2]
        clear hw2 b1 b2 f1 f2 x3
        have HH2 := Lib.hid hh2
        have b1 : w2.cell? ⟨b, 1, none⟩ = some (.slice a l.length cap) := fr_cell_of_heap hh2 rfl
        have f1 : w2.frozen? ⟨b, 1, none⟩ = false := fr_free_of_heap hh2
        clear hh2
        go_wp2_with fail
        go_end0
        exact with_close HR0.out HBB.out HX.out HXB.out HXF.out HW.out (by have := HZ1.out; omega) (HF2.out.setCell (p := ⟨b, 1, none⟩) (fun _ => rfl) _) (by rw [HG1.out]; exact fr_setCell_at HH2.out)
      · have HG1 := Lib.hid (show (withV k (x, .slice xa x.its.length xc) gv l).1 = gv by
          unfold withV
          by_cases h1 : x.its = []
          · rw [if_pos h1]
            exact if_neg (fun e => hc ⟨e, h1⟩)
          · rw [if_neg h1])
        rcases hk0 : ((k : Int) == 0) with _ | _
        · clear hc
          go_wp2_with fail
          go_end0
          exact with_close HR0.out HBB.out HX.out HXB.out HXF.out HW.out (by have := HZ1.out; omega) ((Fp.refl (fun j => j = b) wr).setCell (p := ⟨b, 1, none⟩) (fun _ => rfl) _) (by rw [HG1.out]; exact fr_setCell_at HH.out)
        · have hx0 : ((x.its.length : Int) == 0) = false := by
            rw [beq_eq_false_iff_ne]
            intro e
            exact hc ⟨by simpa using hk0, List.length_eq_zero_iff.1 (by omega)⟩
          clear hc
          go_wp2_with fail
          go_end0
          exact with_close HR0.out HBB.out HX.out HXB.out HXF.out HW.out (by have := HZ1.out; omega) ((Fp.refl (fun j => j = b) wr).setCell (p := ⟨b, 1, none⟩) (fun _ => rfl) _) (by rw [HG1.out]; exact fr_setCell_at HH.out)
end Go.Proofs.Ytohkchilogmneaa
