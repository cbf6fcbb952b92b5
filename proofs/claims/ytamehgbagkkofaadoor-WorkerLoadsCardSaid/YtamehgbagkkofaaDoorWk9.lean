/-
  billetref29.Right: the walk.
-/
import Derived.Test.YtamehgbagkkofaaDoorWk8
namespace Go.Proofs.YtamehgbagkkofaaDoor
open Go.RowKit

def RightPost (room : Int) (l : List Wk) (last : Int) (w : World) (e : Ending) (w' : World) : Prop :=
  ∃ r : Bool, (r = true ↔ LoadsW room l last) ∧ e = .returned (.bool r) ∧ Below w.heap.size w w'
def RRel (last : Int) (l : List Wk) (w : World) (i : Value) (wr : World) : Prop :=
  ∃ k : Nat, i = .int .i64 k ∧ k ≤ l.length ∧ AllW last l k ∧ Below w.heap.size w wr
def NRel (l : List Wk) (n : ByteArray) (k : Nat) (w : World) (j : Value) (wr : World) : Prop :=
  ∃ m : Nat, j = .int .i64 m ∧ m ≤ k ∧ (∀ y ∈ l.take m, nmB n y = false) ∧ Below w.heap.size w wr
theorem bad_iff {p : Prop} (h : ¬ p) : (false = true ↔ p) := ⟨(fun e => by cases e), fun e => absurd e h⟩
theorem pL_of {l : List Wk} {k : Nat} {z : Wk} (hk : 0 < k) (h : l[k - 1]? = some z) : pL l k = z.no := by
  obtain ⟨m, rfl⟩ : ∃ m, k = m + 1 := ⟨k - 1, by omega⟩
  exact pL_succ (by simpa using h)
set_option maxRecDepth 100000 in
set_option maxHeartbeats 1000000 in
theorem right29_bad (room last : Int) (v0 : Value) (l : List Wk) (w : World) (hR : RowsW w v0 l) (h : room < 1 ∨ room < (l.length : Int) ∨ last < 0) :
    Calls Tryd.prog 42 #[.int .i64 room, v0, .int .i64 last] w (RightPost room l last w) := by
  obtain ⟨a, cap, rfl, hl, -⟩ := hR
  have HN := Lib.hid (show ¬ LoadsW room l last from fun h3 => by have := h3.1; have := h3.2.1; have := h3.2.2.1; omega)
  by_cases h1 : room < 1
  · clear h
    go_enter Tryd.func42, Tryd.ntmps42
    go_wp2
    go_ret
    exact ⟨false, bad_iff HN.out, rfl, Below.refl _ _⟩
  · by_cases h2 : room < (l.length : Int)
    · clear h
      go_enter Tryd.func42, Tryd.ntmps42
      go_wp2
      go_ret
      exact ⟨false, bad_iff HN.out, rfl, Below.refl _ _⟩
    · have h3 : last < 0 := by omega
      clear h
      go_enter Tryd.func42, Tryd.ntmps42
      go_wp2
      go_ret
      exact ⟨false, bad_iff HN.out, rfl, Below.refl _ _⟩
set_option maxRecDepth 100000 in
set_option maxHeartbeats 8000000 in
theorem right29_go (room last : Int) (v0 : Value) (l : List Wk) (w : World) (hR : RowsW w v0 l) (hs : ∀ x ∈ l, SmallW x) (h : 1 ≤ room) (h1 : (l.length : Int) ≤ room) (h2 : 0 ≤ last) (h3 : l.length ≤ 40) :
    Calls Tryd.prog 42 #[.int .i64 room, v0, .int .i64 last] w (RightPost room l last w) := by
  obtain ⟨a, cap, rfl, hl, hcell⟩ := hR
  have HC := Lib.hid hcell
  have HS := Lib.hid hs
  clear hcell hs
  go_enter Tryd.func42, Tryd.ntmps42
  go_wp2
  go_loopw [7] (fun i wr => RRel last l w i wr) (fun i _ => l.length - (intOf i).toNat)
  case atStart => exact ⟨0, rfl, Nat.zero_le _, (fun j x hj => by omega), Below.refl _ _⟩
  case round =>
    obtain ⟨k, rfl, hk, hall, hb⟩ := hrel
    have HB := Lib.hid hb
    have HALL := Lib.hid hall
    have HP0 := Lib.hid (pL_nonneg hall hk)
    have hszw := hb.size
    clear hb hall
    by_cases hlt : k < l.length
    · obtain ⟨x, hx⟩ : ∃ x, l[k]? = some x := ⟨_, List.getElem?_eq_getElem hlt⟩
      obtain ⟨g, off, rfl, c0, c1, c2, c3, c4, c5, c6⟩ := RowsW.at HC.out hx
      have HSX := Lib.hid (HS.out x (List.mem_of_getElem? hx))
      have HX := Lib.hid hx
      have d0 := cell_below HB.out c0
      have d1 := cell_below HB.out c1
      have d2 := cell_below HB.out c2
      have d3 := cell_below HB.out c3
      have d4 := cell_below HB.out c4
      have d5 := cell_below HB.out c5
      have d6 := cell_below HB.out c6
      clear hx
      go_wp2_with fail
      refine (rcheck29_any x _ HSX.out).mono ?_
      rintro e w1 ⟨rfl, hb1⟩
      have HB1 := Lib.hid (HB.out.trans (hb1.mono hszw))
      have m0 := cell_below hb1 d0
      have m1 := cell_below hb1 d1
      have m2 := cell_below hb1 d2
      have m3 := cell_below hb1 d3
      have m4 := cell_below hb1 d4
      have m5 := cell_below hb1 d5
      have m6 := cell_below hb1 d6
      clear hb1 d0 d1 d2 d3 d4 d5 d6 c0 c1 c2 c3 c4 c5 c6
      have i0 : (0 : Int) ≤ k := by omega
      have i1 : (k : Int) < l.length := by omega
      go_wp2_with fail
      by_cases k0 : chkE x = 0
      · have k0b : (chkE x != 0) = false := by rw [k0]; rfl
        rcases k1 : ((ba (chkS x)).toList == x.plat.toList) with _ | _
        · have k1b : ((ba (chkS x)).toList != x.plat.toList) = true := by rw [bne, k1]; rfl
          have HK1 := Lib.hid k1
          clear k0
          have HN := Lib.hid (not_all (room := room) (last := last) HX.out (fun ho => by have := ho.plat; rw [HK1.out] at this; cases this))
          go_quiet (fail)
          go_wp2_with fail
          go_ret
          exact ⟨false, bad_iff HN.out, rfl, below_drewN HB1.out _⟩
        · have k1b : ((ba (chkS x)).toList != x.plat.toList) = false := by rw [bne, k1]; rfl
          have HK0 := Lib.hid k0
          have HK1 := Lib.hid k1
          clear k0
          by_cases k2 : x.no < 1
          · have hp0 := HP0.out
            have HN := Lib.hid (not_all (room := room) (last := last) HX.out (fun ho => by have := ho.rise; have := HP0.out; omega))
            go_quiet (fail)
            go_wp2_with fail
            go_ret
            exact ⟨false, bad_iff HN.out, rfl, below_drewN HB1.out _⟩
          · have k2' : 1 ≤ x.no := by omega
            have kB2 : decide (x.no < 1) = false := decide_eq_false k2
            clear k2
            by_cases k3 : x.no ≤ last
            · by_cases k4 : 0 ≤ x.op
              · rcases Nat.eq_zero_or_pos k with hz | hz
                · have HZ := Lib.hid hz
                  have kB3 : decide (last < x.no) = false := decide_eq_false (by omega)
                  have kB4 : decide (x.op < 0) = false := decide_eq_false (by omega)
                  have kB5 : decide ((0 : Int) < (k : Int)) = false := decide_eq_false (by omega)
                  have kB6 : decide (0 < k) = false := decide_eq_false (by omega)
                  have kB7 : ¬ (0 < k) := by omega
                  have kB8 : (k : Int) ≤ 0 := by omega
                  have HOK := Lib.hid (show pL l k < x.no by rw [hz, pL_zero]; omega)
                  clear hz
                  go_quiet (fail)
                  go_wp2_with fail
                  generalize hw2 : w1.drewN _ = w2 at *
                  have HB2 := Lib.hid (show Below w.heap.size w w2 by rw [← hw2]; exact below_drewN HB1.out _)
                  have HW2 := Lib.hid hw2
                  have HB12 := Lib.hid (show Below w1.heap.size w1 w2 by rw [← hw2]; exact below_drewN (Below.refl _ _) _)
                  have s3 := cell_below HB12.out m3
                  clear hw2 m0 m1 m2 m3 m4 m5 m6
                  clear kB2 kB3 kB4 kB5 kB6 kB7
                  go_loopw [10] (fun j wq => NRel l x.name k w j wq) (fun j _ => k - (intOf j).toNat)
                  case atStart => exact ⟨0, rfl, Nat.zero_le _, (fun y hy => by simp at hy), HB2.out⟩
                  case round =>
                    obtain ⟨m, rfl, hm, hnew, hbq⟩ := hrel
                    have HBQ := Lib.hid hbq
                    have HNEW := Lib.hid hnew
                    clear hbq hnew
                    by_cases hmk : m < k
                    · obtain ⟨y, hy⟩ : ∃ y, l[m]? = some y := ⟨_, List.getElem?_eq_getElem (by omega)⟩
                      obtain ⟨g'', off'', hg'', -, -, -, t3, -⟩ := RowsW.at HC.out hy
                      cases hg''
                      obtain ⟨g'', off'', hg'', -, -, -, v3, -⟩ := RowsW.at HC.out HX.out
                      cases hg''
                      have t3' := cell_below HBQ.out t3
                      have v3' := cell_below HBQ.out v3
                      have HY := Lib.hid hy
                      have a0 : (0 : Int) ≤ m := by omega
                      have a1 : (m : Int) < l.length := by omega
                      clear hy t3 v3 s3
                      rcases hn : nmB x.name y with _ | _
                      · have hnb : (y.name.toList == x.name.toList) = false := hn
                        have HN2 := Lib.hid hn
                        clear hn
                        go_wp2_with fail
                        go_quiet (fail)
                        go_wp2_with fail
                        go_roundw
                        case rel =>
                          refine ⟨m + 1, by go_num, by omega, fun u hu => ?_, below_drewN HBQ.out _⟩
                          rw [take_one HY.out] at hu
                          rcases List.mem_append.1 hu with hu | hu
                          · exact HNEW.out u hu
                          · rw [List.mem_singleton] at hu
                            subst hu
                            exact HN2.out
                        case measure => simp [intOf]; omega
                      · have hnb : (y.name.toList == x.name.toList) = true := hn
                        have HN := Lib.hid (not_all (room := room) (last := last) HX.out (fun ho => by
                          have h9 := ho.new y (List.mem_of_getElem? (i := m) (by rw [List.getElem?_take_of_lt hmk]; exact HY.out))
                          rw [hn] at h9
                          cases h9))
                        clear hn
                        go_wp2_with fail
                        go_quiet (fail)
                        go_wp2_with fail
                        go_ret
                        exact ⟨false, bad_iff HN.out, rfl, below_drewN HBQ.out _⟩
                    · have hmk2 : m = k := by omega
                      subst hmk2
                      go_wp2_with fail
                      go_roundw
                      case rel => exact ⟨_ + 1, by go_num, by omega, all_succ HALL.out HX.out ⟨HK0.out, HK1.out, HNEW.out, HOK.out, k3, k4⟩, HBQ.out⟩
                      case measure => simp [intOf]; omega
                · obtain ⟨z, hzx⟩ : ∃ z, l[k - 1]? = some z := ⟨_, List.getElem?_eq_getElem (by omega)⟩
                  obtain ⟨g', off', hg', z0, -⟩ := RowsW.at HC.out hzx
                  cases hg'
                  have HPL := Lib.hid (pL_of hz hzx)
                  have y0 := cell_below HB1.out z0
                  have kB3 : decide (last < x.no) = false := decide_eq_false (by omega)
                  have kB4 : decide (x.op < 0) = false := decide_eq_false (by omega)
                  have kB5 : decide ((0 : Int) < (k : Int)) = true := decide_eq_true (by omega)
                  have j0 : (0 : Int) ≤ (k : Int) - 1 := by omega
                  have j1 : (k : Int) - 1 < l.length := by omega
                  have j2 : ((k : Int) - 1).toNat = k - 1 := by omega
                  have j3 : (0 : Int) < k := by omega
                  have jw : IntKind.i64.wrap ((k : Int) - 1) = (k : Int) - 1 := IntWalk.i64_in _ (by omega)
                  clear z0
                  by_cases k5 : z.no < x.no
                  · have HOK := Lib.hid (show pL l k < x.no by rw [HPL.out]; exact k5)
                    have kB6 : decide (x.no ≤ z.no) = false := decide_eq_false (by omega)
                    go_quiet (fail)
                    go_wp2_with fail
                    generalize hw2 : w1.drewN _ = w2 at *
                    have HB2 := Lib.hid (show Below w.heap.size w w2 by rw [← hw2]; exact below_drewN HB1.out _)
                    have HW2 := Lib.hid hw2
                    have HB12 := Lib.hid (show Below w1.heap.size w1 w2 by rw [← hw2]; exact below_drewN (Below.refl _ _) _)
                    have s3 := cell_below HB12.out m3
                    clear hw2 m0 m1 m2 m3 m4 m5 m6
                    clear y0 j0 j1 j2 j3 jw kB2 kB3 kB4 kB5 kB6
                    go_loopw [10] (fun j wq => NRel l x.name k w j wq) (fun j _ => k - (intOf j).toNat)
                    case atStart => exact ⟨0, rfl, Nat.zero_le _, (fun y hy => by simp at hy), HB2.out⟩
                    case round =>
                      obtain ⟨m, rfl, hm, hnew, hbq⟩ := hrel
                      have HBQ := Lib.hid hbq
                      have HNEW := Lib.hid hnew
                      clear hbq hnew
                      by_cases hmk : m < k
                      · obtain ⟨y, hy⟩ : ∃ y, l[m]? = some y := ⟨_, List.getElem?_eq_getElem (by omega)⟩
                        obtain ⟨g'', off'', hg'', -, -, -, t3, -⟩ := RowsW.at HC.out hy
                        cases hg''
                        obtain ⟨g'', off'', hg'', -, -, -, v3, -⟩ := RowsW.at HC.out HX.out
                        cases hg''
                        have t3' := cell_below HBQ.out t3
                        have v3' := cell_below HBQ.out v3
                        have HY := Lib.hid hy
                        have a0 : (0 : Int) ≤ m := by omega
                        have a1 : (m : Int) < l.length := by omega
                        clear hy t3 v3 s3
                        rcases hn : nmB x.name y with _ | _
                        · have hnb : (y.name.toList == x.name.toList) = false := hn
                          have HN2 := Lib.hid hn
                          clear hn
                          go_wp2_with fail
                          go_quiet (fail)
                          go_wp2_with fail
                          go_roundw
                          case rel =>
                            refine ⟨m + 1, by go_num, by omega, fun u hu => ?_, below_drewN HBQ.out _⟩
                            rw [take_one HY.out] at hu
                            rcases List.mem_append.1 hu with hu | hu
                            · exact HNEW.out u hu
                            · rw [List.mem_singleton] at hu
                              subst hu
                              exact HN2.out
                          case measure => simp [intOf]; omega
                        · have hnb : (y.name.toList == x.name.toList) = true := hn
                          have HN := Lib.hid (not_all (room := room) (last := last) HX.out (fun ho => by
                            have h9 := ho.new y (List.mem_of_getElem? (i := m) (by rw [List.getElem?_take_of_lt hmk]; exact HY.out))
                            rw [hn] at h9
                            cases h9))
                          clear hn
                          go_wp2_with fail
                          go_quiet (fail)
                          go_wp2_with fail
                          go_ret
                          exact ⟨false, bad_iff HN.out, rfl, below_drewN HBQ.out _⟩
                      · have hmk2 : m = k := by omega
                        subst hmk2
                        go_wp2_with fail
                        go_roundw
                        case rel => exact ⟨_ + 1, by go_num, by omega, all_succ HALL.out HX.out ⟨HK0.out, HK1.out, HNEW.out, HOK.out, k3, k4⟩, HBQ.out⟩
                        case measure => simp [intOf]; omega
                  · have k5' : x.no ≤ z.no := by omega
                    have kB6 : decide (x.no ≤ z.no) = true := decide_eq_true k5'
                    clear k5
                    have HN := Lib.hid (not_all (room := room) (last := last) HX.out (fun ho => by have := ho.rise; rw [HPL.out] at this; omega))
                    go_quiet (fail)
                    go_wp2_with fail
                    go_ret
                    exact ⟨false, bad_iff HN.out, rfl, below_drewN HB1.out _⟩
              · have k4' : x.op < 0 := by omega
                have kB3 : decide (last < x.no) = false := decide_eq_false (by omega)
                have kB4 : decide (x.op < 0) = true := decide_eq_true k4'
                have HK4 := Lib.hid k4
                clear k4
                have HN := Lib.hid (not_all (room := room) (last := last) HX.out (fun ho => HK4.out ho.op))
                go_quiet (fail)
                go_wp2_with fail
                go_ret
                exact ⟨false, bad_iff HN.out, rfl, below_drewN HB1.out _⟩
            · have k3' : last < x.no := by omega
              have kB3 : decide (last < x.no) = true := decide_eq_true k3'
              have HK3 := Lib.hid k3
              clear k3
              have HN := Lib.hid (not_all (room := room) (last := last) HX.out (fun ho => HK3.out ho.most))
              go_quiet (fail)
              go_wp2_with fail
              go_ret
              exact ⟨false, bad_iff HN.out, rfl, below_drewN HB1.out _⟩
      · have k0b : (chkE x != 0) = true := by rw [bne_iff_ne]; exact k0
        have HK0 := Lib.hid k0
        clear k0
        have HN := Lib.hid (not_all (room := room) (last := last) HX.out (fun ho => HK0.out ho.chk))
        go_quiet (fail)
        go_wp2_with fail
        go_ret
        exact ⟨false, bad_iff HN.out, rfl, below_drewN HB1.out _⟩
    · obtain rfl : k = l.length := by omega
      go_wp2
      go_ret
      exact ⟨true, ⟨fun _ => ⟨h, h1, h2, HALL.out⟩, fun _ => rfl⟩, rfl, HB.out⟩
end Go.Proofs.YtamehgbagkkofaaDoor
