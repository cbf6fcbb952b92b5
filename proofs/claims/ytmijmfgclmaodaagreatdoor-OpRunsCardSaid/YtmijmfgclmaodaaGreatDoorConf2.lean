/-
  conf.Check and the reference's own: what is wrong with a configuration.
-/
import Derived.Test.YtmijmfgclmaodaaGreatDoorConf
import Derived.Deep.DeepCutAuto
namespace Go.Proofs.YtmijmfgclmaodaaGreatDoor
open Go.RowKit

structure Cfg where
  ts : List Ten
  ls : List Int
  q : Int
  cost : Int
  cap : Int
  invs : Int
  weight : Int
  pools : Int
  retries : Int
  preempts : Int
  base : Int
  most : Int
  lease : Int
  dead : Int
  keep : Int
  keys : Int
  percent : Int
  workers : Int
  watch : Int

/-- What a configuration's slices hold. -/
def CfgAt (w : World) (tv lv : Value) (c : Cfg) : Prop := TensAt w tv c.ts ∧ IntsAt w lv c.ls
theorem CfgAt.below {w w' : World} {tv lv : Value} {c : Cfg} (h : CfgAt w tv lv c) (hb : Below w.heap.size w w') : CfgAt w' tv lv c := ⟨h.1.below hb, h.2.below hb⟩

/-- The cells of a configuration. -/
structure CfgCells (cs : Array Value) (tv lv : Value) (c : Cfg) : Prop where
  size : cs.size = 19
  f0 : cs[0]? = some tv
  f1 : cs[1]? = some lv
  f2 : cs[2]? = some (.int .i64 c.q)
  f3 : cs[3]? = some (.int .i64 c.cost)
  f4 : cs[4]? = some (.int .i64 c.cap)
  f5 : cs[5]? = some (.int .i64 c.invs)
  f6 : cs[6]? = some (.int .i64 c.weight)
  f7 : cs[7]? = some (.int .i64 c.pools)
  f8 : cs[8]? = some (.int .i64 c.retries)
  f9 : cs[9]? = some (.int .i64 c.preempts)
  f10 : cs[10]? = some (.int .i64 c.base)
  f11 : cs[11]? = some (.int .i64 c.most)
  f12 : cs[12]? = some (.int .i64 c.lease)
  f13 : cs[13]? = some (.int .i64 c.dead)
  f14 : cs[14]? = some (.int .i64 c.keep)
  f15 : cs[15]? = some (.int .i64 c.keys)
  f16 : cs[16]? = some (.int .i64 c.percent)
  f17 : cs[17]? = some (.int .i64 c.workers)
  f18 : cs[18]? = some (.int .i64 c.watch)
theorem cfg_lit {cs : Array Value} {tv lv : Value} {c : Cfg} (h : CfgCells cs tv lv c) : cs = #[tv, lv, .int .i64 c.q, .int .i64 c.cost, .int .i64 c.cap, .int .i64 c.invs, .int .i64 c.weight, .int .i64 c.pools, .int .i64 c.retries, .int .i64 c.preempts, .int .i64 c.base, .int .i64 c.most, .int .i64 c.lease, .int .i64 c.dead, .int .i64 c.keep, .int .i64 c.keys, .int .i64 c.percent, .int .i64 c.workers, .int .i64 c.watch] := by
  obtain ⟨hs, f0, f1, f2, f3, f4, f5, f6, f7, f8, f9, f10, f11, f12, f13, f14, f15, f16, f17, f18⟩ := h
  obtain ⟨l⟩ := cs
  match l, hs with
  | [a0, a1, a2, a3, a4, a5, a6, a7, a8, a9, a10, a11, a12, a13, a14, a15, a16, a17, a18], _ =>
    simp at f0 f1 f2 f3 f4 f5 f6 f7 f8 f9 f10 f11 f12 f13 f14 f15 f16 f17 f18
    subst f0 f1 f2 f3 f4 f5 f6 f7 f8 f9 f10 f11 f12 f13 f14 f15 f16 f17 f18
    rfl
theorem cfg_info : (Tryz.prog.info? 42).map (·.size) = some 19 := by kernel_rfl

def inB (n a b : Int) : Bool := decide (a ≤ n) && decide (n ≤ b)
def limF : Int → List Int → Bool
  | _, [] => true
  | last, n :: r => if n ≤ last then false else if 1048576 < n then false else limF n r
def aOk (c : Cfg) : Bool := inB c.q 1 64 && inB c.cost 1 64 && inB c.cap 1 32 && inB c.invs 1 8 && inB c.weight 1 16 && inB c.pools 1 8
def bOk (c : Cfg) : Bool := inB c.retries 0 5 && inB c.preempts 0 5 && inB c.base 1 1048576 && inB c.most c.base 1048576 && inB c.lease 1 1048576
def dOk (c : Cfg) : Bool := inB c.dead 1 32 && inB c.keep 1 64 && inB c.keys 1 32 && inB c.percent 1 100 && inB c.workers 1 16 && inB c.watch 0 16
def checkE (c : Cfg) : Int := if tensE c.ts ≠ 0 then tensE c.ts else if 3 < c.ls.length then 9 else if limF 0 c.ls = false ∨ (aOk c && bOk c && dOk c) = false then 1 else 0

theorem ints_step {ls : List Int} {k : Nat} {n : Int} (h : ls[k]? = some n) : ls.drop k = n :: ls.drop (k + 1) := by
  obtain ⟨hk, rfl⟩ := List.getElem?_eq_some_iff.1 h
  exact List.drop_eq_getElem_cons hk

set_option maxHeartbeats 1000000 in
/-- THE WALK: conf.limits. -/
theorem limits_any (v : Value) (ls : List Int) (w : World) (hL : IntsAt w v ls) :
    Calls Tryz.prog 93 #[v] w fun e w' => e = .returned (.bool (limF 0 ls)) ∧ w = w' := by
  obtain ⟨a, cap, rfl, hlen, hcell⟩ := hL
  have HC := Lib.hid hcell; clear hcell
  go_enter Tryz.func93, Tryz.ntmps93
  go_wp2
  go_loop [3, 8] (fun x i => ∃ (k : Nat) (last : Int), k ≤ ls.length ∧ i = .int .i64 k ∧ x = .int .i64 last ∧ limF last (ls.drop k) = limF 0 ls) (fun _ i => ls.length - (intOf i).toNat)
  case atStart => exact ⟨0, 0, Nat.zero_le _, rfl, rfl, rfl⟩
  case round =>
    obtain ⟨k, last, hk, rfl, rfl, hf⟩ := hrel
    have HF := Lib.hid hf; clear hf
    by_cases hlt : k < ls.length
    · obtain ⟨n, hn⟩ : ∃ n, ls[k]? = some n := ⟨_, List.getElem?_eq_getElem hlt⟩
      obtain ⟨b, off, rfl, c0⟩ := HC.out k n hn
      have hst := ints_step hn
      by_cases h1 : n ≤ last
      · have HE := Lib.hid (show limF 0 ls = false by rw [← HF.out, hst, limF, if_pos h1])
        clear hst hn
        go_wp2
        go_ret
        exact ⟨ret_bool HE.out.symm, rfl⟩
      · by_cases h2 : 1048576 < n
        · have HE := Lib.hid (show limF 0 ls = false by rw [← HF.out, hst, limF, if_neg h1, if_pos h2])
          clear hst hn
          go_wp2
          go_ret
          exact ⟨ret_bool HE.out.symm, rfl⟩
        · have HE := Lib.hid (show limF n (ls.drop (k + 1)) = limF 0 ls by rw [← HF.out, hst, limF, if_neg h1, if_neg h2])
          clear hst hn
          go_wp2
          go_round
          case rel => exact ⟨k + 1, n, by omega, by go_num, rfl, HE.out⟩
          case measure => simp [intOf]; omega
    · have HE := Lib.hid (show limF 0 ls = true by rw [← HF.out, List.drop_eq_nil_of_le (by omega)]; rfl)
      go_wp2
      go_ret
      exact ⟨ret_bool HE.out.symm, rfl⟩

set_option maxHeartbeats 400000 in
/-- THE WALK: (span).ok. -/
theorem spanok_any (n a b : Int) (w : World) :
    Calls Tryz.prog 97 #[.agg #[.int .i64 n, .int .i64 a, .int .i64 b]] w fun e w' => e = .returned (.bool (inB n a b)) ∧ Below w.heap.size w w' := by
  by_cases h1 : a ≤ n
  · by_cases h2 : n ≤ b
    · have H := Lib.hid (show inB n a b = true by simp [inB, h1, h2])
      go_enter Tryz.func97, Tryz.ntmps97
      go_wp2
      go_ret
      exact ⟨ret_bool H.out.symm, (Below.refl _ _).alloc (Nat.le_refl _) _⟩
    · have H := Lib.hid (show inB n a b = false by simp [inB, h2])
      go_enter Tryz.func97, Tryz.ntmps97
      go_wp2
      go_ret
      exact ⟨ret_bool H.out.symm, (Below.refl _ _).alloc (Nat.le_refl _) _⟩
  · have H := Lib.hid (show inB n a b = false by simp [inB, h1])
    go_enter Tryz.func97, Tryz.ntmps97
    go_wp2
    go_ret
    exact ⟨ret_bool H.out.symm, (Below.refl _ _).alloc (Nat.le_refl _) _⟩

set_option maxHeartbeats 400000 in
/-- THE WALK: the closure of conf.Check. -/
theorem spanbad_any (n a b : Int) (w : World) :
    Calls Tryz.prog 96 #[.agg #[.int .i64 n, .int .i64 a, .int .i64 b]] w fun e w' => e = .returned (.bool (!inB n a b)) ∧ Below w.heap.size w w' := by
  go_enter Tryz.func96, Tryz.ntmps96
  go_wp2_with fail
  refine (spanok_any _ _ _ _).mono ?_
  rintro e w1 ⟨rfl, hb⟩
  go_wp2
  go_ret
  exact ⟨rfl, ((Below.refl _ _).alloc (Nat.le_refl _) _).trans (hb.mono (by simp))⟩


def spanL (c : Cfg) : List (Int × Int × Int) := [(c.q, 1, 64), (c.cost, 1, 64), (c.cap, 1, 32), (c.invs, 1, 8), (c.weight, 1, 16), (c.pools, 1, 8), (c.retries, 0, 5), (c.preempts, 0, 5), (c.base, 1, 1048576), (c.most, c.base, 1048576), (c.lease, 1, 1048576), (c.dead, 1, 32), (c.keep, 1, 64), (c.keys, 1, 32), (c.percent, 1, 100), (c.workers, 1, 16), (c.watch, 0, 16)]
def spanCells (c : Cfg) : Array Value := #[.int .i64 c.q, .int .i64 1, .int .i64 64, .int .i64 c.cost, .int .i64 1, .int .i64 64, .int .i64 c.cap, .int .i64 1, .int .i64 32, .int .i64 c.invs, .int .i64 1, .int .i64 8, .int .i64 c.weight, .int .i64 1, .int .i64 16, .int .i64 c.pools, .int .i64 1, .int .i64 8, .int .i64 c.retries, .int .i64 0, .int .i64 5, .int .i64 c.preempts, .int .i64 0, .int .i64 5, .int .i64 c.base, .int .i64 1, .int .i64 1048576, .int .i64 c.most, .int .i64 (c.base), .int .i64 1048576, .int .i64 c.lease, .int .i64 1, .int .i64 1048576, .int .i64 c.dead, .int .i64 1, .int .i64 32, .int .i64 c.keep, .int .i64 1, .int .i64 64, .int .i64 c.keys, .int .i64 1, .int .i64 32, .int .i64 c.percent, .int .i64 1, .int .i64 100, .int .i64 c.workers, .int .i64 1, .int .i64 16, .int .i64 c.watch, .int .i64 0, .int .i64 16]
theorem spanL_len (c : Cfg) : (spanL c).length = 17 := rfl
theorem spanCells_at (c : Cfg) : ∀ (k : Nat) (s : Int × Int × Int), (spanL c)[k]? = some s → (spanCells c)[k * 3]? = some (.int .i64 s.1) ∧ (spanCells c)[k * 3 + 1]? = some (.int .i64 s.2.1) ∧ (spanCells c)[k * 3 + 2]? = some (.int .i64 s.2.2)
  | 0, _, h => by cases h; exact ⟨rfl, rfl, rfl⟩
  | 1, _, h => by cases h; exact ⟨rfl, rfl, rfl⟩
  | 2, _, h => by cases h; exact ⟨rfl, rfl, rfl⟩
  | 3, _, h => by cases h; exact ⟨rfl, rfl, rfl⟩
  | 4, _, h => by cases h; exact ⟨rfl, rfl, rfl⟩
  | 5, _, h => by cases h; exact ⟨rfl, rfl, rfl⟩
  | 6, _, h => by cases h; exact ⟨rfl, rfl, rfl⟩
  | 7, _, h => by cases h; exact ⟨rfl, rfl, rfl⟩
  | 8, _, h => by cases h; exact ⟨rfl, rfl, rfl⟩
  | 9, _, h => by cases h; exact ⟨rfl, rfl, rfl⟩
  | 10, _, h => by cases h; exact ⟨rfl, rfl, rfl⟩
  | 11, _, h => by cases h; exact ⟨rfl, rfl, rfl⟩
  | 12, _, h => by cases h; exact ⟨rfl, rfl, rfl⟩
  | 13, _, h => by cases h; exact ⟨rfl, rfl, rfl⟩
  | 14, _, h => by cases h; exact ⟨rfl, rfl, rfl⟩
  | 15, _, h => by cases h; exact ⟨rfl, rfl, rfl⟩
  | 16, _, h => by cases h; exact ⟨rfl, rfl, rfl⟩
  | n + 17, s, h => by
    rw [List.getElem?_eq_none (by rw [spanL_len]; omega)] at h
    cases h
theorem spans_all (c : Cfg) : (spanL c).all (fun s => inB s.1 s.2.1 s.2.2) = (aOk c && bOk c && dOk c) := by
  simp [spanL, aOk, bOk, dOk, Bool.and_assoc]

set_option maxRecDepth 100000 in
set_option maxHeartbeats 1000000 in
/-- THE WALK: conf.spans. -/
theorem spans_any (cs : Array Value) (tv lv : Value) (c : Cfg) (w : World) (hc : CfgCells cs tv lv c) :
    Calls Tryz.prog 95 #[.agg cs] w fun e w' => e = .returned (.slice (some ⟨w.heap.size + 1, 0, none⟩) 17 17) ∧ (w.alloc (.cells cs 42)).alloc (.cells (spanCells c) 133) = w' := by
  obtain rfl := cfg_lit hc
  clear hc
  go_enter Tryz.func95, Tryz.ntmps95
  go_wp2
  go_ret
  exact ⟨rfl, rfl⟩

/-- The first that does not hold. -/
def firstBad (l : List (Int × Int × Int)) : Bool := l.any fun s => !inB s.1 s.2.1 s.2.2

set_option maxHeartbeats 1000000 in
/-- THE WALK: slices.IndexFunc, of spans. -/
theorem spanix_any (c : Cfg) (g : Nat) (w : World) (hc : ∀ (j : Nat) u, (spanCells c)[j]? = some u → w.cell? ⟨g, j, none⟩ = some u) :
    Calls Tryz.prog 109 #[.slice (some ⟨g, 0, none⟩) 17 17, .func (.func 96) #[] #[]] w fun e w' => (∃ n : Int, e = .returned (.int .i64 n) ∧ (decide (0 ≤ n) = firstBad (spanL c))) ∧ Below w.heap.size w w' := by
  go_enter Tryz.func109, Tryz.ntmps109
  go_wp2
  go_loopw [8] (fun i wr => ∃ k : Nat, k ≤ 17 ∧ i = .int .i64 k ∧ (∀ (j : Nat) s, j < k → (spanL c)[j]? = some s → inB s.1 s.2.1 s.2.2 = true) ∧ Below w.heap.size w wr) (fun i _ => 17 - (intOf i).toNat)
  case atStart => exact ⟨0, by omega, rfl, fun j s hj => by omega, Below.refl _ _⟩
  case round =>
    obtain ⟨k, hk, rfl, hno, hb⟩ := hrel
    have HN := Lib.hid hno; clear hno
    by_cases hlt : k < 17
    · obtain ⟨s, hs⟩ : ∃ s, (spanL c)[k]? = some s := ⟨_, List.getElem?_eq_getElem (by rw [spanL_len]; exact hlt)⟩
      obtain ⟨s0, s1, s2⟩ := s
      obtain ⟨c0, c1, c2⟩ := spanCells_at c k _ hs
      have d0 := cell_below hb (hc _ _ c0)
      have d1 := cell_below hb (hc _ _ c1)
      have d2 := cell_below hb (hc _ _ c2)
      simp only [] at d0 d1 d2
      have HS := Lib.hid hs
      clear c0 c1 c2 hs
      go_wp2_with fail
      refine (spanbad_any _ _ _ _).mono ?_
      rintro e w2 ⟨rfl, hb2⟩
      rcases Bool.eq_false_or_eq_true (inB s0 s1 s2) with hh | hh
      · have HH := Lib.hid hh
        rw [hh]
        clear hh
        go_wp2
        go_roundw
        case rel =>
          refine ⟨k + 1, by omega, by go_num, fun j s hj hs => ?_, hb.trans (hb2.mono hb.size)⟩
          rcases Nat.lt_or_ge j k with h | h
          · exact HN.out j s h hs
          · obtain rfl : j = k := by omega
            rw [HS.out] at hs
            cases hs
            exact HH.out
        case measure => simp [intOf]; omega
      · have HH := Lib.hid (show firstBad (spanL c) = true by
          unfold firstBad
          rw [List.any_eq_true]
          exact ⟨_, List.mem_of_getElem? HS.out, by simp [hh]⟩)
        rw [hh]
        clear hh
        go_wp2
        go_ret
        exact ⟨⟨_, rfl, by rw [HH.out]; simp⟩, hb.trans (hb2.mono hb.size)⟩
    · have HH := Lib.hid (show firstBad (spanL c) = false by
        unfold firstBad
        rw [List.any_eq_false]
        intro s hs
        obtain ⟨j, hj, rfl⟩ := List.getElem_of_mem hs
        have := HN.out j _ (by rw [spanL_len] at hj; omega) (List.getElem?_eq_getElem hj)
        simp [this])
      go_wp2
      go_ret
      exact ⟨⟨_, rfl, by rw [HH.out]; rfl⟩, hb⟩

set_option maxHeartbeats 1000000 in
/-- THE WALK: slices.ContainsFunc, of spans. -/
theorem spanhas_any (c : Cfg) (g : Nat) (w : World) (hc : ∀ (j : Nat) u, (spanCells c)[j]? = some u → w.cell? ⟨g, j, none⟩ = some u) :
    Calls Tryz.prog 94 #[.slice (some ⟨g, 0, none⟩) 17 17, .func (.func 96) #[] #[]] w fun e w' => e = .returned (.bool (firstBad (spanL c))) ∧ Below w.heap.size w w' := by
  have HC := Lib.hid hc; clear hc
  go_enter Tryz.func94, Tryz.ntmps94
  go_wp2_with fail
  refine (spanix_any c g _ HC.out).mono ?_
  rintro e w1 ⟨⟨n, rfl, hn⟩, hb⟩
  have HN := Lib.hid hn; clear hn
  go_wp2
  go_ret
  exact ⟨ret_bool HN.out, hb⟩

theorem firstBad_eq (c : Cfg) : firstBad (spanL c) = !(aOk c && bOk c && dOk c) := by
  rw [← spans_all, firstBad, List.all_eq_not_any_not]
  simp

set_option maxHeartbeats 1000000 in
/-- THE WALK: conf.Check, the tenants are wrong. -/
theorem check_tens (cs : Array Value) (tv lv : Value) (c : Cfg) (w : World) (hc : CfgCells cs tv lv c) (hC : CfgAt w tv lv c) (h0 : tensE c.ts ≠ 0) :
    Calls Tryz.prog 77 #[.agg cs] w fun e w' => e = .returned (.int .i64 (checkE c)) ∧ Below w.heap.size w w' := by
  obtain ⟨hT, hL⟩ := hC
  have f0 := hc.f0
  have HE := Lib.hid (show checkE c = tensE c.ts by unfold checkE; rw [if_pos h0])
  have hne : (tensE c.ts != 0) = true := by rw [bne_iff_ne]; exact h0
  clear hc h0
  go_enter Tryz.func77, Tryz.ntmps77
  go_wp2_with fail
  refine (tenants_any _ _ _ (hT.below ((Below.refl _ _).alloc (Nat.le_refl _) _))).mono ?_
  rintro e w1 ⟨rfl, hb⟩
  go_wp2
  go_ret
  exact ⟨ret_int HE.out.symm, ((Below.refl _ _).alloc (Nat.le_refl _) _).trans (hb.mono (by simp))⟩

set_option maxHeartbeats 1000000 in
/-- THE WALK: conf.Check, too many limits. -/
theorem check_many (cs : Array Value) (tv lv : Value) (c : Cfg) (w : World) (hc : CfgCells cs tv lv c) (hC : CfgAt w tv lv c) (h0 : tensE c.ts = 0) (h3 : 3 < c.ls.length) :
    Calls Tryz.prog 77 #[.agg cs] w fun e w' => e = .returned (.int .i64 (checkE c)) ∧ Below w.heap.size w w' := by
  obtain ⟨hT, hL⟩ := hC
  have f0 := hc.f0
  have HE := Lib.hid (show checkE c = 9 by unfold checkE; rw [if_neg (by simp [h0]), if_pos h3])
  have HC := Lib.hid hc
  obtain ⟨la, lcap, rfl, hlen, _⟩ := hL
  have H0 := Lib.hid h0
  clear hc h0
  go_enter Tryz.func77, Tryz.ntmps77
  go_wp2_with fail
  refine (tenants_any _ _ _ (hT.below ((Below.refl _ _).alloc (Nat.le_refl _) _))).mono ?_
  rintro e w1 ⟨rfl, hb⟩
  rw [H0.out]
  have c1 := cell_below hb (cell_alloc_at (t := 42) HC.out.f1)
  go_wp2
  go_ret
  exact ⟨ret_int HE.out.symm, ((Below.refl _ _).alloc (Nat.le_refl _) _).trans (hb.mono (by simp))⟩

set_option maxHeartbeats 1000000 in
/-- THE WALK: conf.Check, the limits don't rise. -/
theorem check_lim (cs : Array Value) (tv lv : Value) (c : Cfg) (w : World) (hc : CfgCells cs tv lv c) (hC : CfgAt w tv lv c) (h0 : tensE c.ts = 0) (h3 : ¬ 3 < c.ls.length) (hl : limF 0 c.ls = false) :
    Calls Tryz.prog 77 #[.agg cs] w fun e w' => e = .returned (.int .i64 (checkE c)) ∧ Below w.heap.size w w' := by
  obtain ⟨hT, hL⟩ := hC
  have f0 := hc.f0
  have HE := Lib.hid (show checkE c = 1 by unfold checkE; rw [if_neg (by simp [h0]), if_neg h3, if_pos (.inl hl)])
  have HC := Lib.hid hc
  have HL := Lib.hid hL
  obtain ⟨la, lcap, rfl, hlen, _⟩ := hL
  have H0 := Lib.hid h0
  have HLi := Lib.hid hl
  clear hc h0 hl
  go_enter Tryz.func77, Tryz.ntmps77
  go_wp2_with fail
  refine (tenants_any _ _ _ (hT.below ((Below.refl _ _).alloc (Nat.le_refl _) _))).mono ?_
  rintro e w1 ⟨rfl, hb⟩
  rw [H0.out]
  have c1 := cell_below hb (cell_alloc_at (t := 42) HC.out.f1)
  have hb1 : Below w.heap.size w w1 := ((Below.refl _ _).alloc (Nat.le_refl _) _).trans (hb.mono (by simp))
  go_wp2_with fail
  refine (limits_any _ _ _ (HL.out.below hb1)).mono ?_
  rintro e w2 ⟨rfl, rfl⟩
  rw [HLi.out]
  go_wp2
  go_ret
  exact ⟨ret_int HE.out.symm, hb1⟩

set_option maxHeartbeats 1000000 in
/-- THE WALK: conf.Check, to its end. -/
theorem check_end (cs : Array Value) (tv lv : Value) (c : Cfg) (w : World) (hc : CfgCells cs tv lv c) (hC : CfgAt w tv lv c) (h0 : tensE c.ts = 0) (h3 : ¬ 3 < c.ls.length) (hl : limF 0 c.ls = true) :
    Calls Tryz.prog 77 #[.agg cs] w fun e w' => e = .returned (.int .i64 (checkE c)) ∧ Below w.heap.size w w' := by
  obtain ⟨hT, hL⟩ := hC
  have f0 := hc.f0
  have HE := Lib.hid (show checkE c = if (aOk c && bOk c && dOk c) = false then 1 else 0 by unfold checkE; rw [if_neg (by simp [h0]), if_neg h3]; simp [hl])
  have HC := Lib.hid hc
  have HL := Lib.hid hL
  obtain ⟨la, lcap, rfl, hlen, _⟩ := hL
  have H0 := Lib.hid h0
  have HLi := Lib.hid hl
  clear hc h0 hl
  go_enter Tryz.func77, Tryz.ntmps77
  go_wp2_with fail
  refine (tenants_any _ _ _ (hT.below ((Below.refl _ _).alloc (Nat.le_refl _) _))).mono ?_
  rintro e w1 ⟨rfl, hb⟩
  rw [H0.out]
  have c1 := cell_below hb (cell_alloc_at (t := 42) HC.out.f1)
  have hb1 : Below w.heap.size w w1 := ((Below.refl _ _).alloc (Nat.le_refl _) _).trans (hb.mono (by simp))
  have hgB := (hb.block w.heap.size (by simp)).trans (heap_alloc_new w _)
  have HG := Lib.hid hgB
  clear hgB
  go_wp2_with fail
  refine (limits_any _ _ _ (HL.out.below hb1)).mono ?_
  rintro e w2 ⟨rfl, rfl⟩
  rw [HLi.out]
  go_wp2_with (refine wpList_load_agg 42 HG.out Tryz.underlying42 rfl (by rw [HC.out.size]; exact cfg_info) rfl _ rfl rfl ?_)
  refine (spans_any _ _ _ c _ HC.out).mono ?_
  rintro e w3 ⟨rfl, rfl⟩
  go_wp2_with fail
  refine (spanhas_any c _ _ (fun j u hu => ?_)).mono ?_
  · have := cell_alloc_at (w := w1.alloc (.cells cs 42)) (t := 133) hu
    simpa using this
  rintro e w3 ⟨rfl, hb3⟩
  have hb4 : Below w.heap.size w w3 := ((hb1.alloc hb1.size _).alloc (by have := hb1.size; simp; omega) _).trans (hb3.mono (by have := hb1.size; simp; omega))
  rcases Bool.eq_false_or_eq_true (aOk c && bOk c && dOk c) with ha | ha
  · have HF := Lib.hid (show firstBad (spanL c) = false by rw [firstBad_eq, ha]; rfl)
    have HA := Lib.hid ha
    clear ha
    rw [HF.out]
    go_wp2
    go_ret
    exact ⟨ret_int (by rw [HE.out, if_neg (by simp [HA.out])]), hb4⟩
  · have HF := Lib.hid (show firstBad (spanL c) = true by rw [firstBad_eq, ha]; rfl)
    have HA := Lib.hid ha
    clear ha
    rw [HF.out]
    go_wp2
    go_ret
    exact ⟨ret_int (by rw [HE.out, if_pos HA.out]), hb4⟩

/-- THE WALK: conf.Check. -/
theorem check_any (cs : Array Value) (tv lv : Value) (c : Cfg) (w : World) (hc : CfgCells cs tv lv c) (hC : CfgAt w tv lv c) :
    Calls Tryz.prog 77 #[.agg cs] w fun e w' => e = .returned (.int .i64 (checkE c)) ∧ Below w.heap.size w w' := by
  by_cases h0 : tensE c.ts = 0
  · by_cases h3 : 3 < c.ls.length
    · exact check_many cs tv lv c w hc hC h0 h3
    · rcases Bool.eq_false_or_eq_true (limF 0 c.ls) with hl | hl
      · exact check_end cs tv lv c w hc hC h0 h3 hl
      · exact check_lim cs tv lv c w hc hC h0 h3 hl
  · exact check_tens cs tv lv c w hc hC h0

end Go.Proofs.YtmijmfgclmaodaaGreatDoor
