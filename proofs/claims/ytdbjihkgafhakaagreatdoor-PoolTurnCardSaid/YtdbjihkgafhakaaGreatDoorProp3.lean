/-
  prop.Parse: the walk.
-/
import Derived.Test.YtdbjihkgafhakaaGreatDoorProp2
namespace Go.Proofs.YtdbjihkgafhakaaGreatDoor
open Go.RowKit

/-- A list of pairs in memory of the call's own, and an error. -/
def GivesPairs (r : List Pr × Int) (w : World) (e : Ending) (w' : World) : Prop :=
  ∃ v, e = .returned (.tuple #[v, .int .i64 r.2]) ∧ w'.ownsRow w.heap.size 89 2 v r.1.length (flatP r.1) ∧ Below w.heap.size w w'
theorem gives_none {r : List Pr × Int} {w w' : World} {e : Int} (h : r = ([], e)) (hb : Below w.heap.size w w') : GivesPairs r w (.returned (.tuple #[.slice none 0 0, .int .i64 e])) w' := by
  subst h
  exact ⟨_, rfl, own_nil _ _ _ _, hb⟩
abbrev piecesOf (s : ByteArray) : List (List UInt8) := splitL 44 s.data.toList
def pieceCells (l : List (List UInt8)) : Array Value := (l.map fun p => Value.string (ba p)).toArray
theorem pieceCells_get {l : List (List UInt8)} {k : Nat} {x : List UInt8} (h : l[k]? = some x) : (pieceCells l)[k]? = some (.string (ba x)) := by simp [pieceCells, h]
theorem cell_of_heap {w : World} {g i : Nat} {cs : Array Value} {t : TypeId} {fr : Nat × Nat} {v : Value} (h : w.heap[g]? = some (.cells cs t fr)) (hi : cs[i]? = some v) : w.cell? ⟨g, i, none⟩ = some v := by
  simp [World.cell?, h, hi]
theorem parseF_step0 {acc : List Pr} {ps : List (List UInt8)} {k : Nat} {x : List UInt8} (h : ps[k]? = some x) : parseF acc (ps.drop k) = parseF acc (x :: ps.drop (k + 1)) := by
  obtain ⟨hk, rfl⟩ := List.getElem?_eq_some_iff.1 h
  rw [List.drop_eq_getElem_cons hk]
theorem parseP_many {s : ByteArray} (h0 : s.size ≠ 0) (h : 6 < (piecesOf s).length) : parseP s = ([], 9) := by unfold parseP; rw [if_neg h0, if_pos h]
theorem parseP_few {s : ByteArray} (h0 : s.size ≠ 0) (h : ¬ 6 < (piecesOf s).length) : parseP s = parseF [] (piecesOf s) := by unfold parseP; rw [if_neg h0, if_neg h]

/-- strings.Split at ',': the pieces lie in a new block. -/
theorem pieces_any (s : ByteArray) (w : World) (hr : Ready w) (hs : s.size < 4294967281) :
    Calls Tryz.prog 92 #[.string s, .string ⟨#[44]⟩] w fun e w' => e = .returned (.slice (some ⟨w.heap.size, 0, none⟩) (piecesOf s).length (piecesOf s).length) ∧ w'.heap[w.heap.size]? = some (.cells (pieceCells (piecesOf s)) 9) ∧ Below w.heap.size w w' :=
  (split_any 44 s w hr hs).mono fun _ _ ⟨he, hw⟩ => ⟨he, hw ▸ heap_alloc_new w _, hw ▸ box_below⟩

/-- The loop: k pieces are read. -/
def PropRel (s : ByteArray) (w : World) (v i : Value) (wr : World) : Prop := ∃ (k : Nat) (acc : List Pr), i = .int .i64 k ∧ k ≤ (piecesOf s).length ∧ acc.length = k ∧ parseF acc ((piecesOf s).drop k) = parseF [] (piecesOf s) ∧
  wr.ownsRow (w.heap.size + 1) 89 2 v k (flatP acc) ∧ wr.heap[w.heap.size]? = some (.cells (pieceCells (piecesOf s)) 9) ∧ Below w.heap.size w wr

theorem pair_info : (Tryz.prog.info? 89).map (fun i => (i.zero, i.size, i.bytes)) = some (some (.agg #[.string ⟨#[]⟩, .string ⟨#[]⟩]), 2, 32) := by kernel_rfl

set_option maxRecDepth 100000 in
set_option maxHeartbeats 1000000 in
/-- THE WALK: prop.Parse. -/
theorem parse_few (s : ByteArray) (w : World) (hr : Ready w) (hs : s.size ≤ 1048576) (h0 : s.size ≠ 0) (h6 : ¬ 6 < (piecesOf s).length) :
    Calls Tryz.prog 66 #[.string s] w (GivesPairs (parseP s) w) := by
  have HR := Lib.hid hr
  have HP := Lib.hid (parseP_few h0 h6)
  have hsz : s.size < 4294967281 := by omega
  have hne : (s.toList == []) = false := by rw [beq_eq_false_iff_ne, ByteArray.toList_eq]; intro e; apply h0; rw [← show s.data.toList.length = s.size by simp, e]; rfl
  have HM := Lib.hid (fun x hx => splitL_mem_le 44 s.data.toList x hx)
  have hsl : s.data.toList.length = s.size := by simp
  have h6' : (piecesOf s).length ≤ 6 := by omega
  clear hr h0 h6
  go_enter Tryz.func66, Tryz.ntmps66
  go_wp2_with fail
  refine (pieces_any s _ HR.out hsz).mono ?_
  rintro e w1 ⟨rfl, hg0, hb1⟩
  have HG0 := Lib.hid hg0
  have HB1 := Lib.hid hb1
  clear hg0 hb1
  go_wp2_with fail
  go_loopw [5, 19] (fun v i wr => PropRel s w v i wr) (fun _ i _ => (piecesOf s).length - (intOf i).toNat)
  case atStart => exact ⟨0, [], rfl, Nat.zero_le _, rfl, rfl, own_nil _ _ _ _, HG0.out, HB1.out⟩
  case round =>
    obtain ⟨k, acc, rfl, hk, hacc, hpf, hown, hg0, hb⟩ := hrel
    have HA := Lib.hid hacc
    have HF := Lib.hid hpf
    have HO := Lib.hid hown
    have HG := Lib.hid hg0
    have HB := Lib.hid hb
    have hltw : w.heap.size < wr.heap.size := (Array.getElem?_eq_some_iff.1 hg0).1
    obtain ⟨a, cap, rfl, hcap, hmax, hlen, hcell⟩ := own_cells hown
    clear hacc hpf hown hg0 hb hcell hlen HG0 HB1
    by_cases hlt : k < (piecesOf s).length
    · obtain ⟨x, hx⟩ : ∃ x, (piecesOf s)[k]? = some x := ⟨_, List.getElem?_eq_getElem hlt⟩
      have hc := cell_of_heap HG.out (pieceCells_get hx)
      have hxl : x.length ≤ 1048576 := by have := HM.out x (List.mem_of_getElem? hx); omega
      have HX := Lib.hid hx
      clear hx
      go_wp2_with fail
      refine (pair_any x _ (HR.out.below HB.out) hxl).mono ?_
      rintro e w2 ⟨rfl, hb2⟩
      have HB2 := Lib.hid hb2
      clear hb2
      rcases oneE_cases x with h | h | h
      · have HE := Lib.hid h
        have HV := Lib.hid (oneR_good h)
        rw [HE.out, HV.out]
        obtain ⟨q, hq⟩ : ∃ q, oneV x = q := ⟨_, rfl⟩
        have HQ := Lib.hid hq
        rw [hq]
        clear h hq
        have hsz2 : wr.heap.size ≤ w2.heap.size := HB2.out.size
        go_wp2_with fail
        refine (hasK_any (base := w.heap.size + 1) (Value.slice a k cap) acc w2.heap.size q.1 _ ?own (cell_alloc_at rfl)).mono ?_
        case own => rw [HA.out]; exact (own_below HO.out HB2.out).alloc _
        rintro e w3 ⟨rfl, hb3⟩
        have c0 := cell_below hb3 (cell_alloc_at (w := w2) (t := 89) (cs := #[.string q.1, .string q.2]) (i := 0) (v := .string q.1) rfl)
        have c1 := cell_below hb3 (cell_alloc_at (w := w2) (t := 89) (cs := #[.string q.1, .string q.2]) (i := 1) (v := .string q.2) rfl)
        have HB3 := Lib.hid (HB2.out.trans ((box_below2 hb3).mono hsz2))
        have hsz3 : wr.heap.size ≤ w3.heap.size := HB3.out.size
        clear hb3
        rcases hh : hasKey acc q.1 with _ | _
        · have HF2 := Lib.hid (show parseF (acc ++ [q]) ((piecesOf s).drop (k + 1)) = parseF [] (piecesOf s) by
            rw [← HF.out, parseF_step0 HX.out, parseF, if_neg (by rw [HE.out]; decide), HQ.out, if_neg (by rw [hh]; decide)])
          have HO3 := Lib.hid (own_below HO.out HB3.out)
          clear hh
          go_wp2_with (at_builtin; refine wpList_append_row rfl _ _ 83 rfl (w.heap.size + 1) _ 2 32 Tryz.underlying83 pair_info rfl (by decide) (Value.slice a k cap) k (flatP acc) rfl HO3.out rfl rfl ?c1 ?c2 ?c3 ?c4 ?_; (case c1 => exact encP_one q); (case c2 => omega); (case c3 => omega); (case c4 => omega); intro v' w4 hown4 hg4 _)
          have HO4 := Lib.hid (show w4.ownsRow (w.heap.size + 1) 89 2 v' (k + 1) (flatP (acc ++ [q])) by rw [flatP_snoc]; exact hown4)
          have HG4 := Lib.hid (show w4.heap[w.heap.size]? = some (.cells (pieceCells (piecesOf s)) 9) by
            rw [hg4.block w.heap.size (by omega) (fun e => by have := own_block HO.out w.heap.size e.symm; omega), HB3.out.block w.heap.size hltw]; exact HG.out)
          have HB4 := Lib.hid (show Below w.heap.size w w4 from ((HB.out.trans (HB3.out.mono HB.out.size)).grown hg4 (by omega) (fun j hj => by have := own_block HO.out j hj; omega)))
          clear hown4 hg4
          go_wp2
          go_roundw
          case rel => exact ⟨k + 1, acc ++ [q], by go_num, by omega, by simp [HA.out], HF2.out, HO4.out, HG4.out, HB4.out⟩
          case measure => simp [intOf]; omega
        · have HN := Lib.hid (show parseP s = ([], 8) by
            rw [HP.out, ← HF.out, parseF_step0 HX.out, parseF, if_neg (by rw [HE.out]; decide), if_pos (by rw [HQ.out]; exact hh)])
          clear hh c0 c1
          go_wp2
          go_ret2
          exact gives_none HN.out (HB.out.trans (HB3.out.mono HB.out.size))
      · have HN := Lib.hid (show parseP s = ([], 3) by rw [HP.out, ← HF.out, parseF_step0 HX.out, parseF, if_pos (by rw [h]; decide), h])
        have HE := Lib.hid h
        rw [HE.out]
        clear h
        go_wp2
        go_ret2
        exact gives_none HN.out (HB.out.trans ((HB2.out.trans (box_below.mono HB2.out.size)).mono HB.out.size))
      · have HN := Lib.hid (show parseP s = ([], 5) by rw [HP.out, ← HF.out, parseF_step0 HX.out, parseF, if_pos (by rw [h]; decide), h])
        have HE := Lib.hid h
        rw [HE.out]
        clear h
        go_wp2
        go_ret2
        exact gives_none HN.out (HB.out.trans ((HB2.out.trans (box_below.mono HB2.out.size)).mono HB.out.size))
    · have HN := Lib.hid (show parseP s = (acc, 0) by rw [HP.out, ← HF.out, List.drop_of_length_le (by omega)]; rfl)
      go_wp2
      go_ret2
      rw [HN.out]
      refine ⟨_, rfl, ?_, HB.out⟩
      rw [HA.out]
      exact own_base HO.out (by omega)

set_option maxHeartbeats 1000000 in
/-- THE WALK: no text. -/
theorem parse_empty (w : World) : Calls Tryz.prog 66 #[.string ⟨#[]⟩] w (GivesPairs (parseP ⟨#[]⟩) w) := by
  have HP := Lib.hid (show parseP ⟨#[]⟩ = ([], 0) from rfl)
  go_enter Tryz.func66, Tryz.ntmps66
  go_wp2
  go_ret2
  exact gives_none HP.out (Below.refl _ _)
set_option maxHeartbeats 1000000 in
/-- THE WALK: too many pieces. -/
theorem parse_many (s : ByteArray) (w : World) (hr : Ready w) (hs : s.size ≤ 1048576) (h0 : s.size ≠ 0) (h6 : 6 < (piecesOf s).length) :
    Calls Tryz.prog 66 #[.string s] w (GivesPairs (parseP s) w) := by
  have HR := Lib.hid hr
  have HP := Lib.hid (parseP_many h0 h6)
  have hsz : s.size < 4294967281 := by omega
  have hne : (s.toList == []) = false := by rw [beq_eq_false_iff_ne, ByteArray.toList_eq]; intro e; apply h0; rw [← show s.data.toList.length = s.size by simp, e]; rfl
  clear hr h0
  go_enter Tryz.func66, Tryz.ntmps66
  go_wp2_with fail
  refine (pieces_any s _ HR.out hsz).mono ?_
  rintro e w1 ⟨rfl, hg0, hb1⟩
  go_wp2
  go_ret2
  exact gives_none HP.out hb1
/-- THE WALK: prop.Parse, whatever the text. -/
theorem parse_any (s : ByteArray) (w : World) (hr : Ready w) (hs : s.size ≤ 1048576) : Calls Tryz.prog 66 #[.string s] w (GivesPairs (parseP s) w) := by
  by_cases h0 : s.size = 0
  · have : s = ⟨#[]⟩ := by
      apply ba_ext
      have : s.data.toList.length = 0 := by simpa using h0
      rw [List.length_eq_zero_iff.1 this]
    subst this
    exact parse_empty w
  · by_cases h6 : 6 < (piecesOf s).length
    · exact parse_many s w hr hs h0 h6
    · exact parse_few s w hr hs h0 h6
end Go.Proofs.YtdbjihkgafhakaaGreatDoor
