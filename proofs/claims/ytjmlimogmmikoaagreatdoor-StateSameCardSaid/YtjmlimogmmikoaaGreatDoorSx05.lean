/-
  prop.Parse: the walk.
  prop.Show: the walk.
  prop.Canon: the walk.
  billetref04.Split: the walk.
  billetref04.Find and Parse: the walks.
  billetref04.Show and least: the walks.
  billetref04.Canon: the walk.
  Workers and their books: how they lie in memory; who has a number, or a name.
  worker.Book: find, at, get, Get, Find, check: the walks.
  worker.check, May, New, Last, and the law's small functions: the walks.
  worker.Book: Add: the walk.
  worker.Book: All, Remove; slices.Clone, slices.Delete at workers: the walks.
  worker.Book: Remove, Give, Free; the law's example: the walks.
  billetlaw29: the example; WorkerOnce: the walks.
  Workers, and calls of a book, that came in.
-/
import Derived.Test.YtjmlimogmmikoaaGreatDoorSx04
import Derived.Test.YtjmlimogmmikoaaGreatDoorSx02
import Derived.Deep.RegionHeld3
import Derived.Deep.AppendLies
import Derived.Deep.QuietTactic
import Derived.BigQuiet
import Derived.WalkLawsBesides
import Derived.Test.YtjmlimogmmikoaaGreatDoorSx03
import Derived.BigRegion
import Derived.Deep.RegionLaw
import Derived.Lib.SliceRun
namespace Go.Proofs.YtjmlimogmmikoaaGreatDoor
open Go.RowKit
def GivesPairs (r : List Pr × Int) (w : World) (e : Ending) (w' : World) : Prop :=
  ∃ v, e = .returned (.tuple #[v, .int .i64 r.2]) ∧ w'.ownsRow w.heap.size 331 2 v r.1.length (flatP r.1) ∧ Below w.heap.size w w'
theorem gives_none {r : List Pr × Int} {w w' : World} {e : Int} (h : r = ([], e)) (hb : Below w.heap.size w w') : GivesPairs r w (.returned (.tuple #[.slice none 0 0, .int .i64 e])) w' := by
  subst h
  exact ⟨_, rfl, own_nil _ _ _ _, hb⟩
abbrev piecesOf (s : ByteArray) : List (List UInt8) := splitL 44 s.data.toList
def pieceCells (l : List (List UInt8)) : Array Value := (l.map fun p => Value.string (ba p)).toArray
theorem pieceCells_get {l : List (List UInt8)} {k : Nat} {x : List UInt8} (h : l[k]? = some x) : (pieceCells l)[k]? = some (.string (ba x)) := by simp [pieceCells, h]
theorem cell_of_heap {w : World} {g i : Nat} {cs : Array Value} {t : TypeId} {fr : Nat × Nat} {v : Value} (h : w.heap[g]? = some (.cells cs t fr)) (hi : cs[i]? = some v) : w.cell? ⟨g, i, none⟩ = some v := by
  simp [World.cell?, h, hi]
theorem parseF_step0 {acc : List Pr} {ps : List (List UInt8)} {k : Nat} {x : List UInt8} (h : ps[k]? = some x) : parseF acc (ps.drop k) = parseF acc (x :: ps.drop (k + 1)) := by
  obtain ⟨hk, rfl⟩ := List.getElem?_eq_some_iff.1 h
  rw [List.drop_eq_getElem_cons hk]
theorem parseP_many {s : ByteArray} (h0 : s.size ≠ 0) (h : 6 < (piecesOf s).length) : parseP s = ([], 9) := by unfold parseP; rw [if_neg h0, if_pos h]
theorem parseP_few {s : ByteArray} (h0 : s.size ≠ 0) (h : ¬ 6 < (piecesOf s).length) : parseP s = parseF [] (piecesOf s) := by unfold parseP; rw [if_neg h0, if_neg h]
theorem pieces_any (s : ByteArray) (w : World) (hr : Ready w) (hs : s.size < 4294967281) :
    Calls Tryz.prog 240 #[.string s, .string ⟨#[44]⟩] w fun e w' => e = .returned (.slice (some ⟨w.heap.size, 0, none⟩) (piecesOf s).length (piecesOf s).length) ∧ w'.heap[w.heap.size]? = some (.cells (pieceCells (piecesOf s)) 9) ∧ Below w.heap.size w w' :=
  (split_any 44 s w hr hs).mono fun _ _ ⟨he, hw⟩ => ⟨he, hw ▸ heap_alloc_new w _, hw ▸ box_below⟩
def PropRel (s : ByteArray) (w : World) (v i : Value) (wr : World) : Prop := ∃ (k : Nat) (acc : List Pr), i = .int .i64 k ∧ k ≤ (piecesOf s).length ∧ acc.length = k ∧ parseF acc ((piecesOf s).drop k) = parseF [] (piecesOf s) ∧
  wr.ownsRow (w.heap.size + 1) 331 2 v k (flatP acc) ∧ wr.heap[w.heap.size]? = some (.cells (pieceCells (piecesOf s)) 9) ∧ Below w.heap.size w wr
theorem pair_info : (Tryz.prog.info? 331).map (fun i => (i.zero, i.size, i.bytes)) = some (some (.agg #[.string ⟨#[]⟩, .string ⟨#[]⟩]), 2, 32) := by kernel_rfl
set_option maxRecDepth 100000 in
set_option maxHeartbeats 1000000 in
theorem parse_few (s : ByteArray) (w : World) (hr : Ready w) (hs : s.size ≤ 1048576) (h0 : s.size ≠ 0) (h6 : ¬ 6 < (piecesOf s).length) :
    Calls Tryz.prog 217 #[.string s] w (GivesPairs (parseP s) w) := by
  have HR := Lib.hid hr
  have HP := Lib.hid (parseP_few h0 h6)
  have hsz : s.size < 4294967281 := by omega
  have hne : (s.toList == []) = false := by rw [beq_eq_false_iff_ne, ByteArray.toList_eq]; intro e; apply h0; rw [← show s.data.toList.length = s.size by simp, e]; rfl
  have HM := Lib.hid (fun x hx => splitL_mem_le 44 s.data.toList x hx)
  have hsl : s.data.toList.length = s.size := by simp
  have h6' : (piecesOf s).length ≤ 6 := by omega
  clear hr h0 h6
  go_enter Tryz.func217, Tryz.ntmps217
  go_wp2_with fail
  refine (pieces_any s _ HR.out hsz).mono ?_
  rintro e w1 ⟨rfl, hg0, hb1⟩
  have HG0 := Lib.hid hg0
  have HB1 := Lib.hid hb1
  clear hg0 hb1
  go_wp2_with fail
  go_loopw [5, 19] (fun v i wr => PropRel s w v i wr) (fun _ i _ => (piecesOf s).length - (intOf i).toNat)
  case atStart => exact ⟨0, [], rfl, Nat.zero_le _, rfl, rfl, own_nil _ _ _ _, HG0.out, HB1.out⟩
  case round =>
    obtain ⟨k, acc, rfl, hk, hacc, hpf, hown, hg0, hb⟩ := hrel
    have HA := Lib.hid hacc
    have HF := Lib.hid hpf
    have HO := Lib.hid hown
    have HG := Lib.hid hg0
    have HB := Lib.hid hb
    have hltw : w.heap.size < wr.heap.size := (Array.getElem?_eq_some_iff.1 hg0).1
    obtain ⟨a, cap, rfl, hcap, hmax, hlen, hcell⟩ := own_cells hown
    clear hacc hpf hown hg0 hb hcell hlen HG0 HB1
    by_cases hlt : k < (piecesOf s).length
    · obtain ⟨x, hx⟩ : ∃ x, (piecesOf s)[k]? = some x := ⟨_, List.getElem?_eq_getElem hlt⟩
      have hc := cell_of_heap HG.out (pieceCells_get hx)
      have hxl : x.length ≤ 1048576 := by have := HM.out x (List.mem_of_getElem? hx); omega
      have HX := Lib.hid hx
      clear hx
      go_wp2_with fail
      refine (pair_any x _ (HR.out.below HB.out) hxl).mono ?_
      rintro e w2 ⟨rfl, hb2⟩
      have HB2 := Lib.hid hb2
      clear hb2
      rcases oneE_cases x with h | h | h
      · have HE := Lib.hid h
        have HV := Lib.hid (oneR_good h)
        rw [HE.out, HV.out]
        obtain ⟨q, hq⟩ : ∃ q, oneV x = q := ⟨_, rfl⟩
        have HQ := Lib.hid hq
        rw [hq]
        clear h hq
        have hsz2 : wr.heap.size ≤ w2.heap.size := HB2.out.size
        go_wp2_with fail
        refine (hasK_any (base := w.heap.size + 1) (Value.slice a k cap) acc w2.heap.size q.1 _ ?own (cell_alloc_at rfl)).mono ?_
        case own => rw [HA.out]; exact (own_below HO.out HB2.out).alloc _
        rintro e w3 ⟨rfl, hb3⟩
        have c0 := cell_below hb3 (cell_alloc_at (w := w2) (t := 331) (cs := #[.string q.1, .string q.2]) (i := 0) (v := .string q.1) rfl)
        have c1 := cell_below hb3 (cell_alloc_at (w := w2) (t := 331) (cs := #[.string q.1, .string q.2]) (i := 1) (v := .string q.2) rfl)
        have HB3 := Lib.hid (HB2.out.trans ((box_below2 hb3).mono hsz2))
        have hsz3 : wr.heap.size ≤ w3.heap.size := HB3.out.size
        clear hb3
        rcases hh : hasKey acc q.1 with _ | _
        · have HF2 := Lib.hid (show parseF (acc ++ [q]) ((piecesOf s).drop (k + 1)) = parseF [] (piecesOf s) by
            rw [← HF.out, parseF_step0 HX.out, parseF, if_neg (by rw [HE.out]; decide), HQ.out, if_neg (by rw [hh]; decide)])
          have HO3 := Lib.hid (own_below HO.out HB3.out)
          clear hh
          go_wp2_with (at_builtin; refine wpList_append_row rfl _ _ 326 rfl (w.heap.size + 1) _ 2 32 Tryz.underlying326 pair_info rfl (by decide) (Value.slice a k cap) k (flatP acc) rfl HO3.out rfl rfl ?c1 ?c2 ?c3 ?c4 ?_; (case c1 => exact encP_one q); (case c2 => omega); (case c3 => omega); (case c4 => omega); intro v' w4 hown4 hg4 _)
          have HO4 := Lib.hid (show w4.ownsRow (w.heap.size + 1) 331 2 v' (k + 1) (flatP (acc ++ [q])) by rw [flatP_snoc]; exact hown4)
          have HG4 := Lib.hid (show w4.heap[w.heap.size]? = some (.cells (pieceCells (piecesOf s)) 9) by
            rw [hg4.block w.heap.size (by omega) (fun e => by have := own_block HO.out w.heap.size e.symm; omega), HB3.out.block w.heap.size hltw]; exact HG.out)
          have HB4 := Lib.hid (show Below w.heap.size w w4 from ((HB.out.trans (HB3.out.mono HB.out.size)).grown hg4 (by omega) (fun j hj => by have := own_block HO.out j hj; omega)))
          clear hown4 hg4
          go_wp2
          go_roundw
          case rel => exact ⟨k + 1, acc ++ [q], by go_num, by omega, by simp [HA.out], HF2.out, HO4.out, HG4.out, HB4.out⟩
          case measure => simp [intOf]; omega
        · have HN := Lib.hid (show parseP s = ([], 8) by
            rw [HP.out, ← HF.out, parseF_step0 HX.out, parseF, if_neg (by rw [HE.out]; decide), if_pos (by rw [HQ.out]; exact hh)])
          clear hh c0 c1
          go_wp2
          go_ret2
          exact gives_none HN.out (HB.out.trans (HB3.out.mono HB.out.size))
      · have HN := Lib.hid (show parseP s = ([], 3) by rw [HP.out, ← HF.out, parseF_step0 HX.out, parseF, if_pos (by rw [h]; decide), h])
        have HE := Lib.hid h
        rw [HE.out]
        clear h
        go_wp2
        go_ret2
        exact gives_none HN.out (HB.out.trans ((HB2.out.trans (box_below.mono HB2.out.size)).mono HB.out.size))
      · have HN := Lib.hid (show parseP s = ([], 5) by rw [HP.out, ← HF.out, parseF_step0 HX.out, parseF, if_pos (by rw [h]; decide), h])
        have HE := Lib.hid h
        rw [HE.out]
        clear h
        go_wp2
        go_ret2
        exact gives_none HN.out (HB.out.trans ((HB2.out.trans (box_below.mono HB2.out.size)).mono HB.out.size))
    · have HN := Lib.hid (show parseP s = (acc, 0) by rw [HP.out, ← HF.out, List.drop_of_length_le (by omega)]; rfl)
      go_wp2
      go_ret2
      rw [HN.out]
      refine ⟨_, rfl, ?_, HB.out⟩
      rw [HA.out]
      exact own_base HO.out (by omega)
set_option maxHeartbeats 1000000 in
theorem parse_empty (w : World) : Calls Tryz.prog 217 #[.string ⟨#[]⟩] w (GivesPairs (parseP ⟨#[]⟩) w) := by
  have HP := Lib.hid (show parseP ⟨#[]⟩ = ([], 0) from rfl)
  go_enter Tryz.func217, Tryz.ntmps217
  go_wp2
  go_ret2
  exact gives_none HP.out (Below.refl _ _)
set_option maxHeartbeats 1000000 in
theorem parse_many (s : ByteArray) (w : World) (hr : Ready w) (hs : s.size ≤ 1048576) (h0 : s.size ≠ 0) (h6 : 6 < (piecesOf s).length) :
    Calls Tryz.prog 217 #[.string s] w (GivesPairs (parseP s) w) := by
  have HR := Lib.hid hr
  have HP := Lib.hid (parseP_many h0 h6)
  have hsz : s.size < 4294967281 := by omega
  have hne : (s.toList == []) = false := by rw [beq_eq_false_iff_ne, ByteArray.toList_eq]; intro e; apply h0; rw [← show s.data.toList.length = s.size by simp, e]; rfl
  clear hr h0
  go_enter Tryz.func217, Tryz.ntmps217
  go_wp2_with fail
  refine (pieces_any s _ HR.out hsz).mono ?_
  rintro e w1 ⟨rfl, hg0, hb1⟩
  go_wp2
  go_ret2
  exact gives_none HP.out hb1
theorem parse_any (s : ByteArray) (w : World) (hr : Ready w) (hs : s.size ≤ 1048576) : Calls Tryz.prog 217 #[.string s] w (GivesPairs (parseP s) w) := by
  by_cases h0 : s.size = 0
  · have : s = ⟨#[]⟩ := by
      apply ba_ext
      have : s.data.toList.length = 0 := by simpa using h0
      rw [List.length_eq_zero_iff.1 this]
    subst this
    exact parse_empty w
  · by_cases h6 : 6 < (piecesOf s).length
    · exact parse_many s w hr hs h0 h6
    · exact parse_few s w hr hs h0 h6
end Go.Proofs.YtjmlimogmmikoaaGreatDoor
namespace Go.Proofs.YtjmlimogmmikoaaGreatDoor
open Go.RowKit
def Modest (l : List Pr) : Prop := l.length ≤ 1000 ∧ ∀ p ∈ l, p.1.size ≤ 1048576 ∧ p.2.size ≤ 1048576
theorem shown_ba (p : Pr) : p.1 ++ ⟨#[61]⟩ ++ p.2 = ba (shown p) := by
  apply ba_ext
  simp [ba_toList, shown]
theorem join_len_le (c : UInt8) (M : Nat) : ∀ l : List (List UInt8), (∀ x ∈ l, x.length ≤ M) → (Lib.join l [c]).length ≤ l.length * (M + 1)
  | [], _ => by simp [Lib.join, List.intercalate]
  | [x], h => by have := h x (by simp); simp [Lib.join, List.intercalate, List.intersperse]; omega
  | x :: y :: r, h => by
    have ih := join_len_le c M (y :: r) (fun z hz => h z (List.mem_cons_of_mem _ hz))
    have h1 := h x (by simp)
    have e2 : Lib.join (x :: y :: r) [c] = x ++ c :: Lib.join (y :: r) [c] := by simp [Lib.join, List.intercalate, List.intersperse]
    rw [e2]
    simp only [List.length_append, List.length_cons] at ih ⊢
    rw [Nat.add_mul]
    omega
theorem showP_len {l : List Pr} (h : Modest l) : (showP l).length ≤ 2097154000 := by
  have h1 := join_len_le 44 2097153 (l.map shown) (fun x hx => by
    obtain ⟨p, hp, rfl⟩ := List.mem_map.1 hx
    obtain ⟨h1, h2⟩ := h.2 p hp
    have e1 : p.1.data.toList.length = p.1.size := by simp
    have e2 : p.2.data.toList.length = p.2.size := by simp
    simp only [shown, List.length_append, List.length_cons]
    omega)
  have h2 := h.1
  unfold showP
  simp only [List.length_map] at h1
  have : l.length * (2097153 + 1) ≤ 1000 * 2097154 := Nat.mul_le_mul h2 (Nat.le_refl _)
  omega
def showCells (l : List Pr) : List Value := l.map fun p => .string (ba (shown p))
theorem showCells_snoc (l : List Pr) (p : Pr) : showCells (l ++ [p]) = showCells l ++ [.string (p.1 ++ ⟨#[61]⟩ ++ p.2)] := by simp [showCells, shown_ba]
theorem take_snoc_of {l : List Pr} {k : Nat} {p : Pr} (h : l[k]? = some p) : l.take (k + 1) = l.take k ++ [p] := by
  obtain ⟨hk, rfl⟩ := List.getElem?_eq_some_iff.1 h
  exact List.take_succ_eq_append_getElem hk
theorem string_info : (Tryz.prog.info? 9).map (fun i => (i.zero, i.size, i.bytes)) = some (some (.string ⟨#[]⟩), 1, 16) := by kernel_rfl
theorem one_string (s : ByteArray) : ∀ u ∈ (#[Value.string s] : Array Value).toList, u.oneCell' = true := by
  intro u hu
  simp at hu
  subst hu
  rfl
def PairsAt (w : World) (v : Value) (l : List Pr) : Prop := ∃ a cap, v = .slice a l.length cap ∧ l.length ≤ cap ∧ cap ≤ maxLen ∧ ∀ i u, (flatP l)[i]? = some u → ∃ g, a = some ⟨g, 0, none⟩ ∧ g < w.heap.size ∧ w.cell? ⟨g, i, none⟩ = some u
theorem PairsAt.below {w w' : World} {v : Value} {l : List Pr} (h : PairsAt w v l) (hb : Below w.heap.size w w') : PairsAt w' v l := by
  obtain ⟨a, cap, rfl, hcap, hmax, hcell⟩ := h
  exact ⟨a, cap, rfl, hcap, hmax, fun i u hu => by obtain ⟨g, h1, h2, h3⟩ := hcell i u hu; exact ⟨g, h1, Nat.lt_of_lt_of_le h2 hb.size, cell_below hb h3⟩⟩
def SRel (l : List Pr) (w : World) (v i : Value) (wr : World) : Prop := ∃ k : Nat, i = .int .i64 k ∧ k ≤ l.length ∧ wr.ownsRow w.heap.size 9 1 v k (showCells (l.take k)) ∧ Below w.heap.size w wr
set_option maxRecDepth 100000 in
set_option maxHeartbeats 1000000 in
theorem show_any (v : Value) (l : List Pr) (w : World) (hown : PairsAt w v l) (hm : Modest l) :
    Calls Tryz.prog 221 #[v] w fun e w' => e = .returned (.string (ba (showP l))) ∧ Below w.heap.size w w' := by
  have HM := Lib.hid hm
  have hl1 := hm.1
  obtain ⟨a, cap, rfl, hcap, hmax, hcell⟩ := hown
  have HC := Lib.hid hcell
  clear hm hcell
  go_enter Tryz.func221, Tryz.ntmps221
  go_wp2
  go_loopw [3, 8] (fun v i wr => SRel l w v i wr) (fun _ i _ => l.length - (intOf i).toNat)
  case atStart => exact ⟨0, rfl, Nat.zero_le _, own_nil _ _ _ _, Below.refl _ _⟩
  case round =>
    obtain ⟨k, rfl, hk, hown, hb⟩ := hrel
    have HW := Lib.hid hown
    have HB := Lib.hid hb
    have hszw := hb.size
    clear hown hb
    by_cases hlt : k < l.length
    · obtain ⟨p, hp⟩ : ∃ p, l[k]? = some p := ⟨_, List.getElem?_eq_getElem hlt⟩
      obtain ⟨g, rfl, hgl, c0⟩ := HC.out (k * 2) (.string p.1) (by have := flatP_get 0 hp (by omega); simpa [encP] using this)
      obtain ⟨g', hg', _, c1⟩ := HC.out (k * 2 + 1) (.string p.2) (by have := flatP_get 1 hp (by omega); simpa [encP] using this)
      cases hg'
      have d0 := cell_below HB.out c0
      have d1 := cell_below HB.out c1
      obtain ⟨hs0, hs1⟩ := HM.out.2 p (List.mem_of_getElem? hp)
      have HP := Lib.hid hp
      clear hp c0 c1
      go_wp2_with (at_builtin; refine wpList_append_row rfl _ _ 352 rfl w.heap.size _ 1 16 Tryz.underlying352 string_info rfl (by decide) u3 k (showCells (l.take k)) rfl (HW.out.alloc _) ?c5 rfl ?c1 ?c2 ?c3 ?c4 ?_; (case c5 => simp only [World.size_alloc]; rfl); (case c1 => exact one_string _); (case c2 => rw [World.size_alloc]; omega); (case c3 => omega); (case c4 => omega); intro v' w4 hown4 hg4 _)
      have HN := Lib.hid (show w4.ownsRow w.heap.size 9 1 v' (k + 1) (showCells (l.take (k + 1))) by rw [take_snoc_of HP.out, showCells_snoc]; exact hown4)
      have HB4 := Lib.hid (show Below w.heap.size w w4 from (HB.out.alloc hszw _).grown hg4 (by rw [World.size_alloc]; omega) (fun j hj => own_block HW.out j hj))
      clear hown4 hg4
      go_roundw
      case rel => exact ⟨k + 1, by go_num, by omega, HN.out, HB4.out⟩
      case measure => simp [intOf]; omega
    · have hkl : k = l.length := by omega
      subst hkl
      have hw2 := HW.out
      rw [List.take_length] at hw2
      obtain ⟨a2, cap2, rfl, hcap2, hmax2, _, hcell2⟩ := own_cells hw2
      have HC2 := Lib.hid hcell2
      clear hw2 hcell2 HW
      by_cases h0 : l.length = 0
      · have hl : l = [] := List.length_eq_zero_iff.1 h0
        subst hl
        go_wp2_with fail
        refine (join_none _ _ _ _).mono ?_
        rintro e w5 ⟨rfl, rfl⟩
        go_wp2
        go_ret
        exact ⟨rfl, HB.out⟩
      · have HS := Lib.hid (showP_len HM.out)
        obtain ⟨p, hp⟩ : ∃ p, l[0]? = some p := ⟨_, List.getElem?_eq_getElem (by omega)⟩
        obtain ⟨g, rfl, hg, hgl, _, _⟩ := HC2.out 0 (.string (ba (shown p))) (by simp [showCells, hp])
        clear hp
        go_wp2_with fail
        have hj := join_any g 0 cap2 (l.map fun p => ba (shown p)) ⟨#[44]⟩ wr (fun j x hx => by
          obtain ⟨q, hq, rfl⟩ : ∃ q, l[j]? = some q ∧ ba (shown q) = x := by
            rw [List.getElem?_map] at hx
            cases hq : l[j]? with
            | none => rw [hq] at hx; cases hx
            | some q => rw [hq] at hx; exact ⟨q, rfl, Option.some.inj hx⟩
          obtain ⟨g', hg', _, _, hc, _⟩ := HC2.out j (.string (ba (shown q))) (by simp [showCells, hq])
          cases hg'
          rw [Nat.zero_add]; exact hc) hgl (by simp; omega) (by simp; omega) (by
          have := HS.out
          rw [List.map_map]
          have e1 : ((fun x : ByteArray => x.data.toList) ∘ fun p : Pr => ba (shown p)) = shown := by funext q; simp [ba_toList]
          rw [e1]
          show (showP l).length ≤ _
          omega)
        rw [List.map_map, show ((fun x : ByteArray => x.data.toList) ∘ fun p : Pr => ba (shown p)) = shown from by funext q; simp [ba_toList], List.length_map] at hj
        refine hj.mono ?_
        rintro e w5 ⟨rfl, hb5⟩
        go_wp2
        go_ret
        exact ⟨rfl, HB.out.trans (hb5.mono hszw)⟩
end Go.Proofs.YtjmlimogmmikoaaGreatDoor
namespace Go.Proofs.YtjmlimogmmikoaaGreatDoor
open Go.RowKit
open Go.Sort hiding Below
theorem parseF_err : ∀ (ps : List (List UInt8)) (acc : List Pr) {l : List Pr} {e : Int}, parseF acc ps = (l, e) → l ≠ [] → e = 0
  | [], acc, l, e, h, _ => by simp [parseF] at h; exact h.2.symm
  | x :: r, acc, l, e, h, hne => by
    rw [parseF] at h
    split at h
    · simp at h; exact absurd h.1 hne
    · split at h
      · simp at h; exact absurd h.1 hne
      · exact parseF_err r _ h hne
theorem mem_join_le (c : UInt8) : ∀ (l : List (List UInt8)) (x : List UInt8), x ∈ l → x.length ≤ (Lib.join l [c]).length
  | [], _, h => by cases h
  | [y], x, h => by simp at h; subst h; simp [Lib.join, List.intercalate, List.intersperse]
  | y :: z :: r, x, h => by
    have e2 : Lib.join (y :: z :: r) [c] = y ++ c :: Lib.join (z :: r) [c] := by simp [Lib.join, List.intercalate, List.intersperse]
    rw [e2]
    rcases List.mem_cons.1 h with rfl | h
    · simp
    · have := mem_join_le c (z :: r) x h
      simp
      omega
theorem flat_get (l : List Pr) (j : Nat) (u : Value) (h : (flatP l)[j]? = some u) : (flatK encP 2 l.toArray)[j]! = u := by
  have hj : j < l.length * 2 := by
    have := (List.getElem?_eq_some_iff.1 h).1
    rwa [flatP_len] at this
  rw [get_flatK _ _ _ _ (by simpa using hj)]
  have hp : l[j / 2]? = some l[j / 2]! := by rw [List.getElem?_eq_getElem (by omega), getElem!_pos l _ (by omega)]
  have h2 := flatP_get (j % 2) hp (by omega)
  rw [show j / 2 * 2 + j % 2 = j by omega, h] at h2
  rw [show l.toArray[j / 2]! = l[j / 2]! by simp]
  have h3 : (encP l[j / 2]!)[j % 2]? = some u := h2.symm
  rw [List.getElem!_eq_getElem?_getD, h3]
  rfl
theorem holds_of_at {w : World} {g : Nat} {l : List Pr} (h : ∀ i u, (flatP l)[i]? = some u → w.cell? ⟨g, i, none⟩ = some u ∧ w.frozen? ⟨g, i, none⟩ = false) : HoldsK encP 2 w g 0 l.toArray := by
  intro j hj
  have hj2 : j < (flatP l).length := by rw [flatP_len]; simpa using hj
  have h1 : (flatP l)[j]? = some (flatP l)[j] := List.getElem?_eq_getElem hj2
  rw [flat_get l j _ h1, Nat.zero_add]
  exact h j _ h1
theorem at_of_holds {w : World} {g cap : Nat} {d : Array Pr} (h : HoldsK encP 2 w g 0 d) (hg : g < w.heap.size) (hcap : d.size ≤ cap) (hmax : cap ≤ maxLen) : PairsAt w (.slice (some ⟨g, 0, none⟩) d.size cap) d.toList := by
  refine ⟨_, cap, by simp, by simpa using hcap, hmax, fun i u hu => ⟨g, rfl, hg, ?_⟩⟩
  have hi : i < d.size * 2 := by
    have := (List.getElem?_eq_some_iff.1 hu).1
    rw [flatP_len] at this
    simpa using this
  have h1 := (h i (by simpa using hi)).1
  rw [Nat.zero_add] at h1
  rw [h1]
  have := flat_get d.toList i u hu
  simp only [Array.toArray_toList] at this
  rw [this]
  rfl
theorem below_sort {B blk n : Nat} {d : Array Pr} {os : Array Obj} {w : World} (h : B ≤ blk) (hB : B ≤ w.heap.size) : Below B w (sortWorldK encP 2 w blk 0 n d os) := by
  refine ⟨rfl, rfl, rfl, size_sortWorldK_c _ _ _ _ _ _ _ _, fun k hk => ?_⟩
  have hne : blk ≠ k := by omega
  have hlt : k < (putRow id (Sort.ahead w n) blk 0 (flatK encP 2 d)).heap.size := by rw [size_putRow]; simp; omega
  show ((putRow id (Sort.ahead w n) blk 0 (flatK encP 2 d)).heap ++ os)[k]? = _
  rw [Array.getElem?_append_left hlt]
  simp only [putRow, mapBlock, Array.getElem?_modify]
  simp [hne]
theorem sorted_of {l : List Pr} {d' : Array Pr} (ho : Once l) (hp : PermIn 0 l.toArray.size l.toArray d') (hs : SortedIn (ltOf kCmp) 0 l.toArray.size d') : d'.toList = sortP l := by
  obtain ⟨hsz, _, hperm⟩ := hp
  have e1 : d'.extract 0 l.toArray.size = d' := by rw [← hsz]; simp
  have e2 : l.toArray.extract 0 l.toArray.size = l.toArray := by simp
  rw [e1, e2] at hperm
  refine sortP_of ho (by simpa using hperm) ?_
  unfold Rising
  rw [List.pairwise_iff_getElem]
  intro i j hi hj hij
  have h := hs i j (Nat.zero_le _) hij (by rw [← hsz]; simpa using hj)
  have hi' : i < d'.size := by simpa using hi
  have hj' : j < d'.size := by simpa using hj
  rw [getElem!_pos d' i hi', getElem!_pos d' j hj'] at h
  simp only [Array.getElem_toList]
  exact h
set_option maxHeartbeats 1000000 in
theorem insertion_nil (a : Option Addr) (cap : Nat) (f : Value) (w : World) :
    Calls Tryz.prog 260 #[.slice a 0 cap, .int .i64 0, .int .i64 0, f] w fun e w' => e = .returned (.tuple #[]) ∧ w = w' := by
  go_enter Tryz.func260, Tryz.ntmps260
  go_wp2
  go_loop [8] (fun i => i = .int .i64 1) (fun _ => 0)
  case atStart => rfl
  case round =>
    subst hrel
    go_wp2
    go_end0
    exact ⟨rfl, rfl⟩
set_option maxHeartbeats 1000000 in
theorem pdq_nil (a : Option Addr) (cap : Nat) (n : Int) (f : Value) (w : World) :
    Calls Tryz.prog 244 #[.slice a 0 cap, .int .i64 0, .int .i64 0, .int .i64 n, f] w fun e w' => e = .returned (.tuple #[]) ∧ w = w' := by
  go_enter Tryz.func244, Tryz.ntmps244
  go_wp2
  refine wp_loop_rounds 1 ?_
  rw [rounds_succ]
  go_wp2_with fail
  refine (insertion_nil _ _ _ _).mono ?_
  rintro e w1 ⟨rfl, rfl⟩
  go_wp2
  exact bodyPost_ret (v := .tuple #[]) (by simp [results, Tryz.results244, go_sem]) rfl ⟨rfl, rfl⟩
set_option maxHeartbeats 1000000 in
theorem sort_nil (a : Option Addr) (cap : Nat) (f : Value) (w : World) :
    Calls Tryz.prog 218 #[.slice a 0 cap, f] w fun e w' => e = .returned (.tuple #[]) ∧ w = w' := by
  go_enter Tryz.func218, Tryz.ntmps218
  go_wp2_with fail
  refine (hlenP 0 _ (by decide)).mono ?_
  rintro e w1 ⟨⟨n, rfl⟩, rfl⟩
  go_wp2_with fail
  refine (pdq_nil _ _ _ _ _).mono ?_
  rintro e w1 ⟨rfl, rfl⟩
  go_wp2
  go_end0
  exact ⟨rfl, rfl⟩
theorem modest_parse {s : ByteArray} (hs : s.size ≤ 1048576) : Modest (parseP s).1 := by
  refine ⟨by have := parseP_len s; omega, fun p hp => ?_⟩
  have hlen : s.data.toList.length = s.size := by simp
  rcases he : parseP s with ⟨l, e⟩
  rw [he] at hp
  have hne : l ≠ [] := by rintro rfl; cases hp
  have h0 : e = 0 := by
    unfold parseP at he
    split at he
    · simp at he; exact absurd he.1 hne
    · split at he
      · simp at he; exact absurd he.1 hne
      · exact parseF_err _ _ he hne
  subst h0
  have h1 := show_parse he
  have h2 : (showP l).length = s.size := by rw [h1, hlen]
  have h3 : shown p ∈ l.map shown := List.mem_map.2 ⟨p, hp, rfl⟩
  have h4 := mem_join_le 44 (l.map shown) _ h3
  unfold showP at h2
  have e1 : p.1.data.toList.length = p.1.size := by simp
  have e2 : p.2.data.toList.length = p.2.size := by simp
  simp only [shown, List.length_append, List.length_cons] at h4
  omega
theorem modest_sort {l : List Pr} (h : Modest l) : Modest (sortP l) := by
  refine ⟨by rw [(sortP_perm l).length_eq]; exact h.1, fun p hp => h.2 p ((sortP_perm l).mem_iff.1 hp)⟩
set_option maxRecDepth 100000 in
set_option maxHeartbeats 1000000 in
theorem canon_any (s : ByteArray) (w : World) (hr : Ready w) (hs : s.size ≤ 1048576) :
    Calls Tryz.prog 185 #[.string s] w fun e w' => e = .returned (.tuple #[.string (ba (canonP s)), .int .i64 (canonE s)]) ∧ Below w.heap.size w w' := by
  have HR := Lib.hid hr
  have HM := Lib.hid (modest_parse hs)
  have HN := Lib.hid (parseP_once s)
  have H6 := Lib.hid (parseP_len s)
  clear hr
  by_cases h0 : canonE s = 0
  · have HC := Lib.hid (show canonP s = showP (sortP (parseP s).1) by unfold canonP; rw [if_pos h0])
    have HE := Lib.hid h0
    have HE2 := Lib.hid (show (parseP s).2 = 0 from h0)
    clear h0
    go_enter Tryz.func185, Tryz.ntmps185
    go_wp2_with fail
    refine (parse_any s _ HR.out hs).mono ?_
    rintro e w1 ⟨v, rfl, hown, hb1⟩
    rw [HE2.out]
    have HB1 := Lib.hid hb1
    have HO := Lib.hid hown
    obtain ⟨a, cap, rfl, hcap, hmax, hlen, hcell⟩ := own_cells hown
    have HL := Lib.hid hcell
    clear hb1 hown hcell hlen
    go_wp2_with fail
    by_cases hl : (parseP s).1.length = 0
    · have hl' : (parseP s).1 = [] := List.length_eq_zero_iff.1 hl
      have HS := Lib.hid (show canonP s = [] by rw [HC.out, hl', show sortP [] = [] by simp [sortP]]; rfl)
      rw [hl]
      clear hl hl'
      refine (sort_nil _ _ _ _).mono ?_
      rintro e w2 ⟨rfl, rfl⟩
      go_wp2_with fail
      refine (show_any _ [] _ ⟨_, _, rfl, Nat.zero_le _, hmax, fun i u hu => by simp [flatP] at hu⟩ ⟨by decide, fun p hp => by cases hp⟩).mono ?_
      rintro e w3 ⟨rfl, hb3⟩
      go_wp2
      go_ret2
      rw [HS.out, HE.out]
      exact ⟨rfl, HB1.out.trans (hb3.mono HB1.out.size)⟩
    · obtain ⟨p, hp⟩ : ∃ p, (parseP s).1[0]? = some p := ⟨_, List.getElem?_eq_getElem (by omega)⟩
      obtain ⟨g, rfl, hg, hgl, _, _⟩ := HL.out 0 (.string p.1) (by have := flatP_get 0 hp (by omega); simpa [encP] using this)
      have hH : HoldsK encP 2 w1 g 0 (parseP s).1.toArray := holds_of_at (fun i u hu => by
        obtain ⟨g', hg', _, _, h1, h2⟩ := HL.out i u hu
        cases hg'
        exact ⟨h1, h2⟩)
      have hsort := sort_any g 0 cap (parseP s).1.toArray w1 hH hgl (by have := H6.out; simp; omega)
      rw [show (parseP s).1.toArray.size = (parseP s).1.length by simp] at hsort
      clear hp hl
      have HH := Lib.hid hH
      clear hH
      refine hsort.mono ?_
      rintro e w2 ⟨rfl, d', n, os, hp, hs', rfl⟩
      have hd := sorted_of HN.out hp hs'
      have hds : d'.size = (parseP s).1.length := by rw [hp.1]; simp
      have hA : PairsAt (sortWorldK encP 2 w1 g 0 n d' os) (.slice (some ⟨g, 0, none⟩) (parseP s).1.length cap) (sortP (parseP s).1) := by
        rw [← hd, ← hds]
        exact at_of_holds (holdsK_sortWorldK_c _ _ _ _ _ _ _ _ _ HH.out hgl hp.1) (Nat.lt_of_lt_of_le hgl (size_sortWorldK_c _ _ _ _ _ _ _ _)) (by omega) hmax
      have hB : Below w.heap.size w1 (sortWorldK encP 2 w1 g 0 n d' os) := below_sort hg HB1.out.size
      have HA := Lib.hid hA
      have HB := Lib.hid (HB1.out.trans hB)
      clear hsort hp hs' hd hds hA hB
      generalize sortWorldK encP 2 w1 g 0 n d' os = w2 at *
      go_wp2_with fail
      refine (show_any _ _ _ HA.out (modest_sort HM.out)).mono ?_
      rintro e w3 ⟨rfl, hb3⟩
      go_wp2
      go_ret2
      rw [HC.out, HE.out]
      exact ⟨rfl, HB.out.trans (hb3.mono HB.out.size)⟩
  · have HC := Lib.hid (show canonP s = [] by unfold canonP; rw [if_neg h0])
    have hne : (canonE s != 0) = true := by rw [bne_iff_ne]; exact h0
    have HE2 := Lib.hid (show (parseP s).2 = canonE s from rfl)
    clear h0
    go_enter Tryz.func185, Tryz.ntmps185
    go_wp2_with fail
    refine (parse_any s _ HR.out hs).mono ?_
    rintro e w1 ⟨v, rfl, hown, hb1⟩
    rw [HE2.out]
    clear hown
    go_wp2
    go_ret2
    rw [HC.out]
    exact ⟨rfl, hb1⟩
end Go.Proofs.YtjmlimogmmikoaaGreatDoor
namespace Go.Proofs.YtjmlimogmmikoaaGreatDoor
open Go.RowKit
end Go.Proofs.YtjmlimogmmikoaaGreatDoor
namespace Go.Proofs.YtjmlimogmmikoaaGreatDoor
open Go.RowKit
end Go.Proofs.YtjmlimogmmikoaaGreatDoor
namespace Go.Proofs.YtjmlimogmmikoaaGreatDoor
open Go.RowKit
/-! ### The least key -/
end Go.Proofs.YtjmlimogmmikoaaGreatDoor
namespace Go.Proofs.YtjmlimogmmikoaaGreatDoor
open Go.RowKit
end Go.Proofs.YtjmlimogmmikoaaGreatDoor
namespace Go.Proofs.YtjmlimogmmikoaaGreatDoor
open Go.RowKit
structure Wk where
  no : Int
  cls : Int
  op : Int
  name : ByteArray
  plat : ByteArray
  paused : Bool
  untl : Int
def encW (x : Wk) : List Value := [.int .i64 x.no, .int .i64 x.cls, .int .i64 x.op, .string x.name, .string x.plat, .bool x.paused, .int .u64 x.untl]
theorem encW_len (x : Wk) : (encW x).length = 7 := rfl
theorem encW_one (x : Wk) : ∀ v ∈ encW x, v.oneCell' = true := by
  intro v hv
  simp only [encW, List.mem_cons, List.not_mem_nil, or_false] at hv
  rcases hv with rfl | rfl | rfl | rfl | rfl | rfl | rfl <;> rfl
def flatW (l : List Wk) : List Value := l.flatMap encW
theorem flatW_get {l : List Wk} {j : Nat} {x : Wk} (i : Nat) (h : l[j]? = some x) (hi : i < 7) : (flatW l)[j * 7 + i]? = (encW x)[i]? := flat_at encW 7 encW_len i h hi
theorem flatW_snoc (l : List Wk) (x : Wk) : flatW (l ++ [x]) = flatW l ++ encW x := by simp [flatW]
def noW : Wk := ⟨0, 0, 0, ⟨#[]⟩, ⟨#[]⟩, false, 0⟩
def RowsW (w : World) (v : Value) (l : List Wk) : Prop :=
  ∃ a cap, v = .slice a l.length cap ∧ l.length ≤ 140737488351232 ∧ ∀ (j : Nat) u, (flatW l)[j]? = some u → ∃ g off, a = some ⟨g, off, none⟩ ∧ w.cell? ⟨g, off + j, none⟩ = some u
theorem RowsW.below {w w' : World} {v : Value} {l : List Wk} (h : RowsW w v l) (hb : Below w.heap.size w w') : RowsW w' v l := by
  obtain ⟨a, cap, rfl, hl, hc⟩ := h
  exact ⟨a, cap, rfl, hl, fun j u hu => by obtain ⟨g, off, ha, h0⟩ := hc j u hu; exact ⟨g, off, ha, cell_below hb h0⟩⟩
theorem RowsW.at {w : World} {a : Option Addr} {l : List Wk} (hc : ∀ (j : Nat) u, (flatW l)[j]? = some u → ∃ g off, a = some ⟨g, off, none⟩ ∧ w.cell? ⟨g, off + j, none⟩ = some u) {k : Nat} {x : Wk} (hx : l[k]? = some x) :
    ∃ g off, a = some ⟨g, off, none⟩ ∧ w.cell? ⟨g, off + k * 7, none⟩ = some (.int .i64 x.no) ∧ w.cell? ⟨g, off + k * 7 + 1, none⟩ = some (.int .i64 x.cls) ∧ w.cell? ⟨g, off + k * 7 + 2, none⟩ = some (.int .i64 x.op) ∧
      w.cell? ⟨g, off + k * 7 + 3, none⟩ = some (.string x.name) ∧ w.cell? ⟨g, off + k * 7 + 4, none⟩ = some (.string x.plat) ∧ w.cell? ⟨g, off + k * 7 + 5, none⟩ = some (.bool x.paused) ∧ w.cell? ⟨g, off + k * 7 + 6, none⟩ = some (.int .u64 x.untl) := by
  have e (i : Nat) (hi : i < 7) {u : Value} (hu : (encW x)[i]? = some u) : (flatW l)[k * 7 + i]? = some u := by rw [flatW_get i hx hi]; exact hu
  obtain ⟨g, off, rfl, h0⟩ := hc _ _ (e 0 (by omega) rfl)
  obtain ⟨g1, o1, e1, h1⟩ := hc _ _ (e 1 (by omega) rfl); cases e1
  obtain ⟨g2, o2, e2, h2⟩ := hc _ _ (e 2 (by omega) rfl); cases e2
  obtain ⟨g3, o3, e3, h3⟩ := hc _ _ (e 3 (by omega) rfl); cases e3
  obtain ⟨g4, o4, e4, h4⟩ := hc _ _ (e 4 (by omega) rfl); cases e4
  obtain ⟨g5, o5, e5, h5⟩ := hc _ _ (e 5 (by omega) rfl); cases e5
  obtain ⟨g6, o6, e6, h6⟩ := hc _ _ (e 6 (by omega) rfl); cases e6
  exact ⟨g, off, rfl, h0, h1, h2, h3, h4, h5, h6⟩
theorem RowsW.own {w : World} {base : Nat} {v : Value} {l : List Wk} (h : w.ownsRow base 67 7 v l.length (flatW l)) (hl : l.length ≤ 140737488351232) : RowsW w v l := by
  obtain ⟨a, cap, rfl, _, _, _, hc⟩ := own_cells h
  exact ⟨a, cap, rfl, hl, fun j u hu => by obtain ⟨g, ha, _, _, h0, _⟩ := hc j u hu; exact ⟨g, 0, ha, by rw [Nat.zero_add]; exact h0⟩⟩
structure Bk where
  room : Int
  last : Int
  ws : List Wk
structure BookAt (T : TypeId) (base : Nat) (w : World) (b : Nat) (v : Value) (s : Bk) : Prop where
  le : base ≤ b
  heap : w.heap[b]? = some (.cells #[.int .i64 s.room, .int .i64 s.last, v] T (0, 0))
  own : w.ownsRow base 67 7 v s.ws.length (flatW s.ws)
  few : s.ws.length ≤ 1000
section
variable {T : TypeId} {base b : Nat} {w w' : World} {v : Value} {s : Bk}
theorem BookAt.c1 (h : BookAt T base w b v s) : w.cell? ⟨b, 1, none⟩ = some (.int .i64 s.last) := fr_cell_of_heap h.heap rfl
theorem BookAt.c2 (h : BookAt T base w b v s) : w.cell? ⟨b, 2, none⟩ = some v := fr_cell_of_heap h.heap rfl
theorem BookAt.free (h : BookAt T base w b v s) (i : Nat) : w.frozen? ⟨b, i, none⟩ = false := fr_free_of_heap h.heap
theorem BookAt.lt (h : BookAt T base w b v s) : b < w.heap.size := (Array.getElem?_eq_some_iff.1 h.heap).1
theorem BookAt.rows (h : BookAt T base w b v s) : RowsW w v s.ws := RowsW.own h.own (by have := h.few; omega)
theorem BookAt.not_blk (h : BookAt T base w b v s) (hT : T ≠ 67) : b ∉ blk v := by
  intro hm
  rw [mem_blk] at hm
  obtain ⟨_, ⟨rfl, _⟩ | ⟨g, cap, cur, rfl, _, hh, _⟩⟩ := h.own
  · cases hm
  · simp only [Value.ownBlock, Option.some.injEq] at hm
    subst hm
    rw [h.heap] at hh
    simp only [Option.some.injEq, Obj.cells.injEq] at hh
    exact hT hh.2.1
theorem BookAt.frame {S : List Nat} (h : BookAt T base w b v s) (hf : Fr S w w') (hb : b ∉ S) (hv : ∀ k ∈ blk v, k ∉ S) : BookAt T base w' b v s :=
  ⟨h.le, hf.heap h.heap hb, hf.own h.own (fun k hk => hv k (mem_blk.2 hk)), h.few⟩
theorem BookAt.below (h : BookAt T base w b v s) (hb : Below w.heap.size w w') : BookAt T base w' b v s :=
  h.frame (S := []) (Fr.of_below hb) (by simp) (fun _ _ => by simp)
theorem BookAt.setLast (h : BookAt T base w b v s) (hT : T ≠ 67) (n : Int) : BookAt T base (w.setCell ⟨b, 1, none⟩ (.int .i64 n)) b v { s with last := n } := by
  have hn := h.not_blk hT
  exact ⟨h.le, fr_setCell_at h.heap, (Fr.setCell (S := [b]) (Fr.refl _ w) (p := ⟨b, 1, none⟩) (by simp) _).own h.own (fun k hk hm => hn (by rw [List.mem_singleton] at hm; subst hm; exact mem_blk.2 hk)), h.few⟩
theorem book_put {v' : Value} {l : List Wk} (hbase : base ≤ b) (hh : w.heap[b]? = some (.cells #[.int .i64 s.room, .int .i64 s.last, v] T (0, 0))) (ho : w.ownsRow base 67 7 v' l.length (flatW l)) (hn : b ∉ blk v') (hl : l.length ≤ 1000) :
    BookAt T base (w.setCell ⟨b, 2, none⟩ v') b v' { s with ws := l } :=
  ⟨hbase, fr_setCell_at hh, (Fr.setCell (S := [b]) (Fr.refl _ w) (p := ⟨b, 2, none⟩) (by simp) _).own ho (fun k hk hm => hn (by rw [List.mem_singleton] at hm; subst hm; exact mem_blk.2 hk)), hl⟩
end
/-! ### Who has a number, or a name -/
def nmB (n : ByteArray) (x : Wk) : Bool := x.name.toList == n.toList
def findI (p : Wk → Bool) (l : List Wk) : Int := match l.findIdx? p with
  | some i => i
  | none => -1
theorem findI_hit {p : Wk → Bool} : ∀ {l : List Wk} {k : Nat} {x : Wk}, l[k]? = some x → p x = true → (∀ j y, j < k → l[j]? = some y → p y = false) → l.findIdx? p = some k
  | [], _, _, h, _, _ => by simp at h
  | y :: r, 0, x, h, hp, _ => by
    simp at h
    subst h
    simp [List.findIdx?_cons, hp]
  | y :: r, k + 1, x, h, hp, hn => by
    have h0 := hn 0 y (by omega) rfl
    have ih := findI_hit (l := r) (k := k) (by simpa using h) hp (fun j z hj hz => hn (j + 1) z (by omega) (by simpa using hz))
    simp [List.findIdx?_cons, h0, ih]
theorem findI_of {p : Wk → Bool} {l : List Wk} {k : Nat} {x : Wk} (h : l[k]? = some x) (hp : p x = true) (hn : ∀ j y, j < k → l[j]? = some y → p y = false) : findI p l = k := by
  unfold findI; rw [findI_hit h hp hn]
theorem findI_none {p : Wk → Bool} {l : List Wk} (hn : ∀ j y, j < l.length → l[j]? = some y → p y = false) : findI p l = -1 := by
  unfold findI
  have : l.findIdx? p = none := by
    rw [List.findIdx?_eq_none_iff]
    intro x hx
    obtain ⟨j, hj, rfl⟩ := List.getElem_of_mem hx
    exact hn j _ hj (List.getElem?_eq_getElem hj)
  rw [this]
theorem findI_cases (p : Wk → Bool) (l : List Wk) : findI p l = -1 ∧ (∀ x ∈ l, p x = false) ∨ ∃ (k : Nat) (x : Wk), findI p l = k ∧ l[k]? = some x ∧ p x = true := by
  rcases h : l.findIdx? p with _ | k
  · exact .inl ⟨by unfold findI; rw [h], List.findIdx?_eq_none_iff.1 h⟩
  · obtain ⟨hk, hp, _⟩ := List.findIdx?_eq_some_iff_getElem.1 h
    exact .inr ⟨k, l[k], by unfold findI; rw [h], List.getElem?_eq_getElem hk, hp⟩
def atW (l : List Wk) (i : Int) : Wk := if i < 0 then noW else l.getD i.toNat noW
theorem atW_neg {l : List Wk} {i : Int} (h : i < 0) : atW l i = noW := by unfold atW; rw [if_pos h]
theorem atW_of {l : List Wk} {k : Nat} {x : Wk} (h : l[k]? = some x) : atW l (k : Int) = x := by
  unfold atW
  rw [if_neg (by omega), Int.toNat_natCast]
  simp [List.getD, h]
end Go.Proofs.YtjmlimogmmikoaaGreatDoor
namespace Go.Proofs.YtjmlimogmmikoaaGreatDoor
open Go.RowKit
def IRel (p : Wk → Bool) (l : List Wk) (w : World) (i : Value) (wr : World) : Prop := ∃ k : Nat, i = .int .i64 k ∧ k ≤ l.length ∧ (∀ j y, j < k → l[j]? = some y → p y = false) ∧ Below w.heap.size w wr
set_option maxRecDepth 100000 in
set_option maxHeartbeats 1000000 in
theorem nm1_any (B : Nat) (n : ByteArray) (w : World) (hc : w.cell? ⟨B, 0, none⟩ = some (.string n)) (x : Wk) :
    Calls Tryz.prog 187 #[.agg #[.int .i64 x.no, .int .i64 x.cls, .int .i64 x.op, .string x.name, .string x.plat, .bool x.paused, .int .u64 x.untl], .pointer (some ⟨B, 0, none⟩)] w fun e w' => e = .returned (.bool (nmB n x)) ∧ Below w.heap.size w w' := by
  have hB := World.block_lt_of_cell? w _ hc
  have hne : B ≠ w.heap.size := by simp at hB; omega
  go_enter Tryz.func187, Tryz.ntmps187
  go_wp2
  go_ret
  exact ⟨ret_bool (by simp [nmB]), box_below⟩
set_option maxRecDepth 100000 in
set_option maxHeartbeats 1000000 in
theorem nmIx_any (v : Value) (l : List Wk) (B : Nat) (n : ByteArray) (w : World) (hr : RowsW w v l) (hc : w.cell? ⟨B, 0, none⟩ = some (.string n)) :
    Calls Tryz.prog 155 #[v, .func (.func 187) #[] #[.pointer (some ⟨B, 0, none⟩)]] w fun e w' => e = .returned (.int .i64 (findI (nmB n) l)) ∧ Below w.heap.size w w' := by
  obtain ⟨a, cap, rfl, hl, hcell⟩ := hr
  have HC := Lib.hid hcell
  have HK := Lib.hid hc
  clear hcell hc
  go_enter Tryz.func155, Tryz.ntmps155
  go_wp2
  go_loopw [8] (fun i wr => IRel (nmB n) l w i wr) (fun i _ => l.length - (intOf i).toNat)
  case atStart => exact ⟨0, rfl, Nat.zero_le _, (fun j y hj => by omega), Below.refl _ _⟩
  case round =>
    obtain ⟨k, rfl, hk, hn, hb⟩ := hrel
    have HB := Lib.hid hb
    have HN := Lib.hid hn
    clear hb hn
    by_cases hlt : k < l.length
    · obtain ⟨x, hx⟩ : ∃ x, l[k]? = some x := ⟨_, List.getElem?_eq_getElem hlt⟩
      obtain ⟨g, off, rfl, c0, c1, c2, c3, c4, c5, c6⟩ := RowsW.at HC.out hx
      have d0 := cell_below HB.out c0
      have d1 := cell_below HB.out c1
      have d2 := cell_below HB.out c2
      have d3 := cell_below HB.out c3
      have d4 := cell_below HB.out c4
      have d5 := cell_below HB.out c5
      have d6 := cell_below HB.out c6
      have HX := Lib.hid hx
      clear hx c0 c1 c2 c3 c4 c5 c6
      go_wp2_with fail
      refine (nm1_any B n _ (cell_below HB.out HK.out) x).mono ?_
      rintro e w1 ⟨rfl, hb1⟩
      have HB1 := Lib.hid (HB.out.trans (hb1.mono HB.out.size))
      clear hb1 d0 d1 d2 d3 d4 d5 d6
      rcases hp : nmB n x with _ | _
      · have HP := Lib.hid hp
        clear hp
        go_wp2_with fail
        go_roundw
        case rel =>
          refine ⟨k + 1, by go_num, by omega, fun j y hj hy => ?_, HB1.out⟩
          rcases Nat.lt_or_ge j k with h | h
          · exact HN.out j y h hy
          · obtain rfl : j = k := by omega
            obtain rfl : x = y := Option.some.inj (HX.out.symm.trans hy)
            exact HP.out
        case measure => simp [intOf]; omega
      · have HP := Lib.hid (findI_of HX.out hp HN.out)
        clear hp
        go_wp2_with fail
        go_ret
        exact ⟨ret_int HP.out.symm, HB1.out⟩
    · have HP := Lib.hid (findI_none (p := nmB n) (l := l) (fun j y hj hy => HN.out j y (by omega) hy))
      go_wp2
      go_ret
      exact ⟨ret_int HP.out.symm, HB.out⟩
set_option maxRecDepth 100000 in
set_option maxHeartbeats 1000000 in
theorem nmFind_any {T : TypeId} {base b : Nat} {v : Value} {s : Bk} (B : Nat) (n : ByteArray) (w : World) (hB : BookAt T base w b v s) (hc : w.cell? ⟨B, 0, none⟩ = some (.string n)) :
    Calls Tryz.prog 186 #[.pointer (some ⟨b, 0, none⟩), .func (.func 187) #[] #[.pointer (some ⟨B, 0, none⟩)]] w fun e w' => e = .returned (.int .i64 (findI (nmB n) s.ws)) ∧ Below w.heap.size w w' := by
  have HB := Lib.hid hB
  have c2 := hB.c2
  have HK := Lib.hid hc
  clear hB hc
  go_enter Tryz.func186, Tryz.ntmps186
  go_wp2_with fail
  refine (nmIx_any v s.ws B n _ HB.out.rows HK.out).mono ?_
  rintro e w1 ⟨rfl, hb1⟩
  go_wp2
  go_ret
  exact ⟨rfl, hb1⟩
set_option maxRecDepth 100000 in
set_option maxHeartbeats 1000000 in
theorem get_none {b : Nat} (i : Int) (hi : i < 0) (w : World) :
    Calls Tryz.prog 148 #[.pointer (some ⟨b, 0, none⟩), .int .i64 i] w fun e w' => e = .returned (.tuple #[.agg #[.int .i64 0, .int .i64 0, .int .i64 0, .string ⟨#[]⟩, .string ⟨#[]⟩, .bool false, .int .u64 0], .bool false]) ∧ Below w.heap.size w w' := by
  go_enter Tryz.func148, Tryz.ntmps148
  go_wp2
  refine bodyPost_ret (v := .tuple #[.agg #[.int .i64 0, .int .i64 0, .int .i64 0, .string ⟨#[]⟩, .string ⟨#[]⟩, .bool false, .int .u64 0], .bool false]) (by simp [results, Tryz.results148, go_sem]) rfl ⟨rfl, ?_⟩
  exact box_below
set_option maxRecDepth 100000 in
set_option maxHeartbeats 1000000 in
theorem get_some {T : TypeId} {base b : Nat} {v : Value} {s : Bk} (k : Nat) (x : Wk) (w : World) (hB : BookAt T base w b v s) (hx : s.ws[k]? = some x) :
    Calls Tryz.prog 148 #[.pointer (some ⟨b, 0, none⟩), .int .i64 k] w fun e w' => e = .returned (.tuple #[.agg #[.int .i64 x.no, .int .i64 x.cls, .int .i64 x.op, .string x.name, .string x.plat, .bool x.paused, .int .u64 x.untl], .bool true]) ∧ Below w.heap.size w w' := by
  have c2 := hB.c2
  have hb := hB.lt
  have hlt : k < s.ws.length := (List.getElem?_eq_some_iff.1 hx).1
  obtain ⟨a, cap, rfl, hl, hcell⟩ := hB.rows
  obtain ⟨g, off, rfl, c0, c1, e2, c3, c4, c5, c6⟩ := RowsW.at hcell hx
  have hg : g < w.heap.size := World.block_lt_of_cell? w _ c0
  have hne : b ≠ w.heap.size := by omega
  have hne2 : g ≠ w.heap.size := by omega
  clear hcell hx hB
  go_enter Tryz.func148, Tryz.ntmps148
  go_wp2
  refine bodyPost_ret (v := .tuple #[.agg #[.int .i64 x.no, .int .i64 x.cls, .int .i64 x.op, .string x.name, .string x.plat, .bool x.paused, .int .u64 x.untl], .bool true]) (by simp [results, Tryz.results148, go_sem]) rfl ⟨rfl, ?_⟩
  exact box_below
theorem get_any {T : TypeId} {base b : Nat} {v : Value} {s : Bk} (p : Wk → Bool) (w : World) (hB : BookAt T base w b v s) :
    Calls Tryz.prog 148 #[.pointer (some ⟨b, 0, none⟩), .int .i64 (findI p s.ws)] w fun e w' => e = .returned (.tuple #[.agg #[.int .i64 (atW s.ws (findI p s.ws)).no, .int .i64 (atW s.ws (findI p s.ws)).cls, .int .i64 (atW s.ws (findI p s.ws)).op, .string (atW s.ws (findI p s.ws)).name, .string (atW s.ws (findI p s.ws)).plat, .bool (atW s.ws (findI p s.ws)).paused, .int .u64 (atW s.ws (findI p s.ws)).untl], .bool (decide (0 ≤ findI p s.ws))]) ∧ Below w.heap.size w w' := by
  rcases findI_cases p s.ws with ⟨h, _⟩ | ⟨k, x, h, hx, _⟩
  · rw [h, atW_neg (by omega)]
    exact get_none (-1) (by omega) w
  · rw [h, atW_of hx, show decide ((0 : Int) ≤ (k : Int)) = true from decide_eq_true (by omega)]
    exact get_some k x w hB hx
set_option maxRecDepth 100000 in
set_option maxHeartbeats 1000000 in
theorem nmGet_any {T : TypeId} {base b : Nat} {v : Value} {s : Bk} (n : ByteArray) (w : World) (hB : BookAt T base w b v s) :
    Calls Tryz.prog 146 #[.pointer (some ⟨b, 0, none⟩), .string n] w fun e w' => e = .returned (.tuple #[.agg #[.int .i64 (atW s.ws (findI (nmB n) s.ws)).no, .int .i64 (atW s.ws (findI (nmB n) s.ws)).cls, .int .i64 (atW s.ws (findI (nmB n) s.ws)).op, .string (atW s.ws (findI (nmB n) s.ws)).name, .string (atW s.ws (findI (nmB n) s.ws)).plat, .bool (atW s.ws (findI (nmB n) s.ws)).paused, .int .u64 (atW s.ws (findI (nmB n) s.ws)).untl], .bool (decide (0 ≤ findI (nmB n) s.ws))]) ∧ Below w.heap.size w w' := by
  have HB := Lib.hid hB
  have hG := fun W (h : Below w.heap.size w W) => get_any (nmB n) W (hB.below h)
  have HG := Lib.hid hG
  clear hB hG
  generalize hi : findI (nmB n) s.ws = i at *
  generalize hx : atW s.ws i = x at *
  have HI := Lib.hid hi
  clear hi hx
  go_enter Tryz.func146, Tryz.ntmps146
  go_wp2_with fail
  refine (nmFind_any _ n _ ((HB.out.below box_below).below box_below) (by simp)).mono ?_
  rintro e w1 ⟨rfl, hb1⟩
  rw [HI.out]
  have HB1 := Lib.hid ((box_below.alloc (by simp) _).trans (hb1.mono (by simp; omega)))
  have hz1 : w.heap.size + 1 < w1.heap.size := by have := hb1.size; simp at this; omega
  have HC1 := Lib.hid hb1
  clear hb1
  go_wp2_with fail
  refine (HG.out _ HB1.out).mono ?_
  rintro e w2 ⟨rfl, hb2⟩
  have HB2 := Lib.hid (HB1.out.trans (hb2.mono HB1.out.size))
  have hz2 : w.heap.size + 1 < w2.heap.size := by have := hb2.size; omega
  obtain ⟨hc2, hf2⟩ := bcell (HC1.out.trans (hb2.mono HC1.out.size))
  clear hb2
  go_wp2
  refine bodyPost_ret (v := .tuple #[.agg #[.int .i64 x.no, .int .i64 x.cls, .int .i64 x.op, .string x.name, .string x.plat, .bool x.paused, .int .u64 x.untl], .bool (decide (0 ≤ i))]) (by simp [results, Tryz.results146, go_sem, hc2]) rfl ⟨rfl, ?_⟩
  exact (((((((HB2.out.setCell (by simp) _).setCell (by simp) _).setCell (by simp) _).setCell (by simp) _).setCell (by simp) _).setCell (by simp) _).setCell (by simp) _)
end Go.Proofs.YtjmlimogmmikoaaGreatDoor
namespace Go.Proofs.YtjmlimogmmikoaaGreatDoor
open Go.RowKit
def clsB (x : Wk) : Bool := decide (0 ≤ x.cls) && decide (x.cls ≤ 3)
def chkE (x : Wk) : Int := if nameB x.name = true then if clsB x = true then canonE x.plat else 1 else 5
def chkS (x : Wk) : List UInt8 := if nameB x.name = true then if clsB x = true then canonP x.plat else [] else []
theorem chk_name {x : Wk} (h : nameB x.name = false) : chkE x = 5 ∧ chkS x = [] := by unfold chkE chkS; rw [if_neg (by rw [h]; decide), if_neg (by rw [h]; decide)]; exact ⟨rfl, rfl⟩
theorem chk_cls {x : Wk} (h : nameB x.name = true) (h2 : clsB x = false) : chkE x = 1 ∧ chkS x = [] := by unfold chkE chkS; rw [if_pos h, if_pos h, if_neg (by rw [h2]; decide), if_neg (by rw [h2]; decide)]; exact ⟨rfl, rfl⟩
theorem chk_plat {x : Wk} (h : nameB x.name = true) (h2 : clsB x = true) : chkE x = canonE x.plat ∧ chkS x = canonP x.plat := by unfold chkE chkS; rw [if_pos h, if_pos h, if_pos h2, if_pos h2]; exact ⟨rfl, rfl⟩
def SmallW (x : Wk) : Prop := x.name.size ≤ 1048576 ∧ x.plat.size ≤ 1048576
set_option maxRecDepth 100000 in
set_option maxHeartbeats 1000000 in
theorem check_name (x : Wk) (w : World) (_hr : Ready w) (hs : SmallW x) (h : nameB x.name = false) :
    Calls Tryz.prog 145 #[.agg #[.int .i64 x.no, .int .i64 x.cls, .int .i64 x.op, .string x.name, .string x.plat, .bool x.paused, .int .u64 x.untl]] w fun e w' => e = .returned (.tuple #[.string ⟨#[]⟩, .int .i64 5]) ∧ Below w.heap.size w w' := by
  obtain ⟨hs1, hs2⟩ := id hs
  have HN := Lib.hid h
  clear h
  go_enter Tryz.func145, Tryz.ntmps145
  go_wp2_with fail
  refine (name_any x.name _ (by omega)).mono ?_
  rintro e w1 ⟨rfl, hb1⟩
  rw [HN.out]
  obtain ⟨hc1, -⟩ := bcell hb1
  have HB1 := Lib.hid (box_below.trans (hb1.mono (by simp)))
  have hz1 : w.heap.size < w1.heap.size := by have := hb1.size; simp at this; omega
  clear hb1
  go_wp2
  go_ret2
  exact ⟨rfl, HB1.out⟩
set_option maxRecDepth 100000 in
set_option maxHeartbeats 1000000 in
theorem check_lo (x : Wk) (w : World) (_hr : Ready w) (hs : SmallW x) (h : nameB x.name = true) (h2 : x.cls < 0) :
    Calls Tryz.prog 145 #[.agg #[.int .i64 x.no, .int .i64 x.cls, .int .i64 x.op, .string x.name, .string x.plat, .bool x.paused, .int .u64 x.untl]] w fun e w' => e = .returned (.tuple #[.string ⟨#[]⟩, .int .i64 1]) ∧ Below w.heap.size w w' := by
  obtain ⟨hs1, hs2⟩ := id hs
  have HN := Lib.hid h
  clear h
  go_enter Tryz.func145, Tryz.ntmps145
  go_wp2_with fail
  refine (name_any x.name _ (by omega)).mono ?_
  rintro e w1 ⟨rfl, hb1⟩
  rw [HN.out]
  obtain ⟨hc1, -⟩ := bcell hb1
  have HB1 := Lib.hid (box_below.trans (hb1.mono (by simp)))
  have hz1 : w.heap.size < w1.heap.size := by have := hb1.size; simp at this; omega
  clear hb1
  go_wp2
  go_ret2
  exact ⟨rfl, HB1.out⟩
set_option maxRecDepth 100000 in
set_option maxHeartbeats 1000000 in
theorem check_hi (x : Wk) (w : World) (_hr : Ready w) (hs : SmallW x) (h : nameB x.name = true) (h2 : 3 < x.cls) :
    Calls Tryz.prog 145 #[.agg #[.int .i64 x.no, .int .i64 x.cls, .int .i64 x.op, .string x.name, .string x.plat, .bool x.paused, .int .u64 x.untl]] w fun e w' => e = .returned (.tuple #[.string ⟨#[]⟩, .int .i64 1]) ∧ Below w.heap.size w w' := by
  obtain ⟨hs1, hs2⟩ := id hs
  have HN := Lib.hid h
  clear h
  go_enter Tryz.func145, Tryz.ntmps145
  go_wp2_with fail
  refine (name_any x.name _ (by omega)).mono ?_
  rintro e w1 ⟨rfl, hb1⟩
  rw [HN.out]
  obtain ⟨hc1, -⟩ := bcell hb1
  have HB1 := Lib.hid (box_below.trans (hb1.mono (by simp)))
  have hz1 : w.heap.size < w1.heap.size := by have := hb1.size; simp at this; omega
  clear hb1
  go_wp2
  go_ret2
  exact ⟨rfl, HB1.out⟩
set_option maxRecDepth 100000 in
set_option maxHeartbeats 1000000 in
theorem check_plat (x : Wk) (w : World) (hr : Ready w) (hs : SmallW x) (h : nameB x.name = true) (h2 : 0 ≤ x.cls) (h3 : x.cls ≤ 3) :
    Calls Tryz.prog 145 #[.agg #[.int .i64 x.no, .int .i64 x.cls, .int .i64 x.op, .string x.name, .string x.plat, .bool x.paused, .int .u64 x.untl]] w fun e w' => e = .returned (.tuple #[.string (ba (canonP x.plat)), .int .i64 (canonE x.plat)]) ∧ Below w.heap.size w w' := by
  obtain ⟨hs1, hs2⟩ := id hs
  have HR := Lib.hid hr
  clear hr
  have HN := Lib.hid h
  clear h
  go_enter Tryz.func145, Tryz.ntmps145
  go_wp2_with fail
  refine (name_any x.name _ (by omega)).mono ?_
  rintro e w1 ⟨rfl, hb1⟩
  rw [HN.out]
  obtain ⟨hc1, -⟩ := bcell hb1
  have HB1 := Lib.hid (box_below.trans (hb1.mono (by simp)))
  have hz1 : w.heap.size < w1.heap.size := by have := hb1.size; simp at this; omega
  clear hb1
  go_wp2_with fail
  refine (canon_any x.plat _ (HR.out.below HB1.out) hs.2).mono ?_
  rintro e w2 ⟨rfl, hb2⟩
  go_wp2
  go_ret2
  exact ⟨rfl, HB1.out.trans (hb2.mono HB1.out.size)⟩
theorem wkcheck_any (x : Wk) (w : World) (hr : Ready w) (hs : SmallW x) :
    Calls Tryz.prog 145 #[.agg #[.int .i64 x.no, .int .i64 x.cls, .int .i64 x.op, .string x.name, .string x.plat, .bool x.paused, .int .u64 x.untl]] w fun e w' => e = .returned (.tuple #[.string (ba (chkS x)), .int .i64 (chkE x)]) ∧ Below w.heap.size w w' := by
  rcases h : nameB x.name with _ | _
  · rw [(chk_name h).1, (chk_name h).2]
    exact check_name x w hr hs h
  · rcases h2 : clsB x with _ | _
    · rw [(chk_cls h h2).1, (chk_cls h h2).2]
      by_cases h3 : x.cls < 0
      · exact check_lo x w hr hs h h3
      · refine check_hi x w hr hs h ?_
        rcases Int.lt_or_le 3 x.cls with h4 | h4
        · exact h4
        · simp [clsB, h4] at h2
          omega
    · rw [(chk_plat h h2).1, (chk_plat h h2).2]
      simp [clsB] at h2
      exact check_plat x w hr hs h h2.1 h2.2
set_option maxRecDepth 100000 in
set_option maxHeartbeats 1000000 in
theorem new_none (room : Int) (w : World) (h : room < 1) :
    Calls Tryz.prog 144 #[.int .i64 room] w fun e w' => e = .returned (.pointer none) ∧ w = w' := by
  go_enter Tryz.func144, Tryz.ntmps144
  go_wp2
  go_ret
  exact ⟨rfl, rfl⟩
set_option maxRecDepth 100000 in
set_option maxHeartbeats 1000000 in
theorem new_some (room : Int) (w : World) (h : 1 ≤ room) :
    Calls Tryz.prog 144 #[.int .i64 room] w fun e w' => e = .returned (.pointer (some ⟨w.heap.size, 0, none⟩)) ∧ w' = w.alloc (.cells #[.int .i64 room, .int .i64 0, .slice none 0 0] 227) := by
  go_enter Tryz.func144, Tryz.ntmps144
  go_wp2
  go_ret
  exact ⟨rfl, rfl⟩
theorem new_book (room : Int) (w : World) : BookAt 227 w.heap.size (w.alloc (.cells #[.int .i64 room, .int .i64 0, .slice none 0 0] 227)) w.heap.size (.slice none 0 0) ⟨room, 0, []⟩ :=
  ⟨Nat.le_refl _, fr_alloc_at, own_nil _ _ _ _, Nat.zero_le _⟩
end Go.Proofs.YtjmlimogmmikoaaGreatDoor
namespace Go.Proofs.YtjmlimogmmikoaaGreatDoor
open Go.RowKit
theorem worker_info : (Tryz.prog.info? 67).map (fun i => (i.zero, i.size, i.bytes)) = some (some (.agg #[.int .i64 0, .int .i64 0, .int .i64 0, .string ⟨#[]⟩, .string ⟨#[]⟩, .bool false, .int .u64 0]), 7, 72) := by kernel_rfl
end Go.Proofs.YtjmlimogmmikoaaGreatDoor
namespace Go.Proofs.YtjmlimogmmikoaaGreatDoor
open Go.RowKit
/-! ### Cells laid one behind the other -/
end Go.Proofs.YtjmlimogmmikoaaGreatDoor
namespace Go.Proofs.YtjmlimogmmikoaaGreatDoor
open Go.RowKit
end Go.Proofs.YtjmlimogmmikoaaGreatDoor
namespace Go.Proofs.YtjmlimogmmikoaaGreatDoor
open Go.RowKit
theorem book_ge {T : TypeId} {base b : Nat} {w : World} {v : Value} {s : Bk} (h : BookAt T base w b v s) : ∀ k ∈ b :: blk v, base ≤ k := by
  intro k hk
  rcases List.mem_cons.1 hk with rfl | h1
  · exact h.le
  · exact own_blk h.own k h1
def xb : Wk := ⟨0, 0, 0, ⟨#[98]⟩, ⟨#[]⟩, false, 0⟩
def s0 : Bk := ⟨2, 0, []⟩
structure Ac where
  kind : Int
  x : Wk
def encA (a : Ac) : List Value := .int .i64 a.kind :: encW a.x
theorem encA_len (a : Ac) : (encA a).length = 8 := rfl
def ActsAt (w : World) (v : Value) (l : List Ac) : Prop :=
  (∃ a cap, v = .slice a l.length cap ∧ l.length ≤ 140737488351232 ∧ ∀ (j : Nat) u, (l.flatMap encA)[j]? = some u → ∃ g off, a = some ⟨g, off, none⟩ ∧ w.cell? ⟨g, off + j, none⟩ = some u) ∧
  ∀ a ∈ l, a.x.name.size ≤ 140737488351232 ∧ a.x.plat.size ≤ 140737488351232
theorem ActsAt.at {w : World} {a : Option Addr} {l : List Ac} (hc : ∀ (j : Nat) u, (l.flatMap encA)[j]? = some u → ∃ g off, a = some ⟨g, off, none⟩ ∧ w.cell? ⟨g, off + j, none⟩ = some u) {k : Nat} {y : Ac} (hx : l[k]? = some y) :
    ∃ g off, a = some ⟨g, off, none⟩ ∧ w.cell? ⟨g, off + k * 8, none⟩ = some (.int .i64 y.kind) ∧ w.cell? ⟨g, off + k * 8 + 1, none⟩ = some (.int .i64 y.x.no) ∧ w.cell? ⟨g, off + k * 8 + 2, none⟩ = some (.int .i64 y.x.cls) ∧ w.cell? ⟨g, off + k * 8 + 3, none⟩ = some (.int .i64 y.x.op) ∧
      w.cell? ⟨g, off + k * 8 + 4, none⟩ = some (.string y.x.name) ∧ w.cell? ⟨g, off + k * 8 + 5, none⟩ = some (.string y.x.plat) ∧ w.cell? ⟨g, off + k * 8 + 6, none⟩ = some (.bool y.x.paused) ∧ w.cell? ⟨g, off + k * 8 + 7, none⟩ = some (.int .u64 y.x.untl) := by
  have e (i : Nat) (hi : i < 8) {u : Value} (hu : (encA y)[i]? = some u) : (l.flatMap encA)[k * 8 + i]? = some u := by rw [flat_at encA 8 encA_len i hx hi]; exact hu
  obtain ⟨g, off, rfl, h0⟩ := hc _ _ (e 0 (by omega) rfl)
  obtain ⟨g1, o1, e1, h1⟩ := hc _ _ (e 1 (by omega) rfl); cases e1
  obtain ⟨g2, o2, e2, h2⟩ := hc _ _ (e 2 (by omega) rfl); cases e2
  obtain ⟨g3, o3, e3, h3⟩ := hc _ _ (e 3 (by omega) rfl); cases e3
  obtain ⟨g4, o4, e4, h4⟩ := hc _ _ (e 4 (by omega) rfl); cases e4
  obtain ⟨g5, o5, e5, h5⟩ := hc _ _ (e 5 (by omega) rfl); cases e5
  obtain ⟨g6, o6, e6, h6⟩ := hc _ _ (e 6 (by omega) rfl); cases e6
  obtain ⟨g7, o7, e7, h7⟩ := hc _ _ (e 7 (by omega) rfl); cases e7
  exact ⟨g, off, rfl, h0, h1, h2, h3, h4, h5, h6, h7⟩
theorem was_far {T : TypeId} {base b m : Nat} {w w' : World} {v : Value} {s : Bk} (_ : BookAt T base w b v s) (h : BookAt T base w' b v s) (hb : b < m) (hm : w'.heap.size ≤ m) : m ∉ b :: blk v := by
  intro hk
  rcases List.mem_cons.1 hk with h1 | h1
  · omega
  · have := own_lt h.own m h1
    omega
end Go.Proofs.YtjmlimogmmikoaaGreatDoor
namespace Go.Proofs.YtjmlimogmmikoaaGreatDoor
open Go.ChangeShapes Go.WideShapes Go.ChangeAt Go.RowKit Go.Deep
section
variable {H : Type} {enc : TypeId × Value → H} {W : World} {base : Nat} {sp : Nat → Bool} {hd : Bool}
end
end Go.Proofs.YtjmlimogmmikoaaGreatDoor
