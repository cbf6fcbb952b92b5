/-
  spin's Pick: the walk of the loop.
-/
import Derived.Test.YtohkchilogmneaaSpin8
import Derived.Deep.DeepCutAuto
namespace Go.Proofs.Ytohkchilogmneaa
open Go.RowKit

section
variable {α : Type} {T K : Nat} {ok : Int → Value → Prop} {In : α → Roles → World → Prop} {pk : α → Int → α × It}
variable {pre : List Int} {ρ : Roles} {sp : Nat} {q : Int} {gv : Bool} {v : Value} {ns : List Nd}
theorem spinPart_part {ρ : Roles} {k : Nat} (h : SpinPart ρ pre k) : Part ρ pre k := by
  rcases h with h | h | ⟨id, h⟩ <;> exact ⟨_, h⟩
theorem inPart_part {ρ : Roles} {k : Nat} (h : InPart ρ pre k) : Part ρ pre k := by
  obtain ⟨s, h⟩ := h
  exact ⟨_, h⟩
theorem spin_not_in {ρ : Roles} {k : Nat} (h : SpinPart ρ pre k) : ¬ InPart ρ pre k := by
  rintro ⟨s, hs⟩
  unfold SpinPart at h
  rw [hs] at h
  rcases h with h1 | h1 | ⟨id, h1⟩ <;> simp at h1
theorem ringPart_back {ρ ρ' : Roles} {w : World} (hl : Later ρ ρ' w) {k : Nat} (hk : k < w.heap.size) (h : RingPart ρ' pre k) : RingPart ρ pre k := by
  unfold RingPart SpinPart InPart at h ⊢
  rw [hl k hk] at h
  exact h
theorem PRel.start (L : SrcLaw pre T K ok In pk) {w : World} {a : α} {n : Nd} {r : List Nd} (hS : SpinAt pre ρ w sp q gv v (n :: r)) (hI : In a ρ w) (hok : NdsOk gv (n :: r)) (hoks : ∀ m ∈ n :: r, ok m.id m.src) :
    PRel pre ρ In ok q pk w sp gv (n :: r) a (roundM gv (n :: r)) (w.alloc (.cells #[.int .i64 0, .int .i64 0] 37)) gv n r a v (fence ρ w) where
  less := rfl
  good := hok
  same := fun _ _ _ h => h
  oks := hoks
  later := fence_later ρ w
  news := fun k hk => .inl (by simp [fence, Nat.not_lt.2 hk])
  cellR := by simp [fence]
  cell := fr_alloc_at
  ring := (hS.later (fence_later ρ w)).below box_below
  ins := L.frame (S := fun _ => False) (L.later hI (fence_later ρ w)) (Fp.of_below box_below) (fun _ _ _ h => h)
  fp := Fp.of_below box_below
end
section
variable {α : Type} {T K : Nat} {ok : Int → Value → Prop} {In : α → Roles → World → Prop} {pk : α → Int → α × It}
variable {pre : List Int} {ρ ρr ρ2 : Roles} {sp g : Nat} {q : Int} {gv gv' : Bool} {v v' : Value} {ns : List Nd} {n m : Nd} {r : List Nd} {a a' : α} {x : It} {w wr wc w2 w3 w4 : World}
/-- What a round has done behind the source's call. -/
structure Round (pre : List Int) (ρ : Roles) (In : α → Roles → World → Prop) (ok : Int → Value → Prop) (q : Int) (pk : α → Int → α × It) (w : World) (sp : Nat) (gv : Bool) (ns : List Nd) (a : α) (g : Nat) (wr : World) (gv' : Bool) (n : Nd) (r : List Nd) (a' : α) (v' : Value) (ρr : Roles) (m : Nd) (x : It) (w3 : World) (ρ2 : Roles) : Prop where
  rel : PRel pre ρ In ok q pk w sp gv ns a g wr gv' n r a' v' ρr
  hm : m = charge q gv' n
  hx : x = (pk a' n.id).2
  cost : 1 ≤ x.cost ∧ x.cost ≤ 64
  later : Later ρ ρ2 w
  news : NewRoles ρ2 pre w.heap.size
  cellR : ρ2 w.heap.size = []
  cell : w3.heap[w.heap.size]? = some (.cells #[.int .i64 0, .int .i64 0] 37 (0, 0))
  ring : SpinAt pre ρ2 w3 sp q true v' (m :: r)
  ins : In (pk a' n.id).1 ρ2 w3
  fp : Fp (RingPart ρ pre) w w3
theorem hg3 {w wb : World} {n : Nat} {o : Obj} {b : Option Nat} (h : ((w.drewN n).alloc o).grownBy wb b) : (w.alloc o).grownBy wb b := ⟨h.os, h.tape, h.output, h.size, h.block⟩
theorem Round.mk' (L : SrcLaw pre T K ok In pk) (hR : PRel pre ρ In ok q pk w sp gv ns a g wr gv' n r a' v' ρr) (hm : m = charge q gv' n) (hx : x = (pk a' n.id).2) (hc : 1 ≤ x.cost ∧ x.cost ≤ 64) (hF1 : Fp (SpinPart ρr pre) wr wc) (hF2 : Fp (InPart ρr pre) wc w2)
    (hl2 : Later ρr ρ2 wc) (hn2 : ∀ k, wc.heap.size ≤ k → ρ2 k = ρr k ∨ InPart ρ2 pre k) (hS2 : SpinAt pre ρ2 w2 sp q true v' (m :: r)) (hI2 : In (pk a' n.id).1 ρ2 w2) (hB3 : Below w2.heap.size w2 w3) :
    Round pre ρ In ok q pk w sp gv ns a g wr gv' n r a' v' ρr m x w3 ρ2 := by
  have hz : w.heap.size < wr.heap.size := fp_lt_of_heap hR.cell
  have hz1 := hF1.size
  have hz2 := hF2.size
  have hrole : ρ2 w.heap.size = [] := (hl2 _ (by omega)).trans hR.cellR
  have hc1 := hF1.heap hR.cell (fun h => by have h1 := hR.cellR; rcases h with h | h | ⟨_, h⟩ <;> rw [h1] at h <;> simp at h)
  have hc2 := hF2.heap hc1 (fun h => by have h1 := hR.cellR; obtain ⟨_, h⟩ := h; rw [h1] at h; simp at h)
  refine ⟨hR, hm, hx, hc, fun k hk => (hl2 k (by omega)).trans (hR.later k hk), fun k hk => ?_, hrole, (hB3.block _ (fp_lt_of_heap hc2)).trans hc2, hS2.below hB3, L.frame (S := fun _ => False) hI2 (Fp.of_below hB3) (fun _ _ _ h => h), ?_⟩
  · have key : ρ2 k = ρr k → ρ2 k = [] ∨ Part ρ2 pre k := fun e => by
      rcases hR.news k hk with h | ⟨s, h⟩
      · exact .inl (e.trans h)
      · exact .inr ⟨s, e.trans h⟩
    rcases Nat.lt_or_ge k wc.heap.size with h | h
    · exact key (hl2 k h)
    · rcases hn2 k h with h | h
      · exact key h
      · exact .inr (inPart_part h)
  · refine (hR.fp.trans (hF1.mono (S' := RingPart ρr pre) (fun k hk => .inl hk)) (fun k hk h => ringPart_back hR.later hk h)).trans (S' := RingPart ρr pre) ?_ (fun k hk h => ringPart_back hR.later hk h)
    exact (hF2.mono (S' := RingPart ρr pre) (fun k hk => .inr hk)).then_below hB3
theorem Round.grant (L : SrcLaw pre T K ok In pk) (hq1 : 1 ≤ q) (hq : q ≤ 64) (h : Round pre ρ In ok q pk w sp gv ns a g wr gv' n r a' v' ρr m x w3 ρ2) (hle : x.cost ≤ m.df) (hF : Fp (fun k => k = w.heap.size) w3 w4) :
    PickPost pre ρ In q pk w sp gv ns a (.returned (.tuple #[.pointer (some ⟨m.blk, 0, none⟩), itV x, .bool true])) w4 := by
  refine ⟨m, r, (pk a' n.id).1, x, v', ρ2, rfl, ?_, ⟨?_, h.rel.good.2⟩, h.later, h.news, h.ring.frame hF (fun k _ hk e => ?_), L.frame h.ins hF (fun k _ hk e => ?_), h.fp.trans hF (fun k hk e => by omega)⟩
  · refine h.rel.same _ _ _ ?_
    have h1 := h.hx
    have h2 := h.hm
    subst h1 h2
    exact .grant hle
  · have h2 := h.hm
    subst h2
    exact charge_ok hq1 hq h.rel.good.1
  · subst e
    have h1 := h.cellR
    rcases hk with h | h | ⟨_, h⟩ <;> rw [h1] at h <;> simp at h
  · subst e
    have h1 := h.cellR
    obtain ⟨_, h⟩ := hk
    rw [h1] at h
    simp at h
theorem Round.rotate (L : SrcLaw pre T K ok In pk) (hq1 : 1 ≤ q) (hq : q ≤ 64) (h : Round pre ρ In ok q pk w sp gv ns a g wr gv' n r a' v' ρr m x w3 ρ2) (hle : ¬ x.cost ≤ m.df) {o : Obj} {wb w5 : World} {v2 : Value}
    (hA : ArrIn 104 wb v2 (r.map Nd.blk ++ [m.blk])) (hg : (w3.alloc o).grownBy wb v'.ownBlock) (hat : v2.ownBlock = v'.ownBlock ∨ v2.ownBlock = some (w3.heap.size + 1)) (hw : w5 = (wb.setCell ⟨sp, 1, none⟩ v2).setCell ⟨sp, 2, none⟩ (.bool false)) :
    ∃ n2 r2 ρ3, PRel pre ρ In ok q pk w sp gv ns a (roundM false (r ++ [m])) w5 false n2 r2 (pk a' n.id).1 v2 ρ3 := by
  obtain ⟨ρ3, hl3, hn3, hS3, hF3⟩ := spin_rotate h.ring hA hg hat hw
  obtain ⟨n2, r2, hnr⟩ : ∃ n2 r2, r ++ [m] = n2 :: r2 := by
    cases r with
    | nil => exact ⟨_, _, rfl⟩
    | cons y r => exact ⟨_, _, rfl⟩
  have hz3 := h.fp.size
  have hz5 := hF3.size
  have hlt := fp_lt_of_heap h.cell
  have hgood : NdsOk false (r ++ [m]) := by
    have h2 := h.hm
    subst h2
    exact rotate_ok hq1 hq h.cost.2 h.rel.good hle
  rw [hnr] at hS3 hgood ⊢
  have hnp : ¬ SpinPart ρ2 pre w.heap.size := fun hk => by
    have h1 := h.cellR
    rcases hk with h | h | ⟨_, h⟩ <;> rw [h1] at h <;> simp at h
  refine ⟨n2, r2, ρ3, rfl, hgood, fun ns2 a2 y hp => h.rel.same _ _ _ ?_, fun k hk => ?_, h.later.trans hl3 hz3, fun k hk => ?_, (hl3 _ hlt).trans h.cellR, hF3.heap h.cell hnp, hS3, ?_, ?_⟩
  · have h1 := h.hx
    have h2 := h.hm
    subst h1 h2
    rw [← hnr] at hp
    exact .rotate hle hp
  · rw [← hnr] at hk
    rcases List.mem_append.1 hk with hk | hk
    · exact h.rel.oks k (List.mem_cons_of_mem _ hk)
    · rw [List.mem_singleton] at hk
      subst hk
      have h2 := h.hm
      subst h2
      have h3 := charge_id q gv' n
      rw [h3.1, h3.2.2.1]
      exact h.rel.oks n List.mem_cons_self
  · rcases Nat.lt_or_ge k w3.heap.size with hk2 | hk2
    · rcases h.news k hk with h1 | ⟨s, h1⟩
      · exact .inl ((hl3 k hk2).trans h1)
      · exact .inr ⟨s, (hl3 k hk2).trans h1⟩
    · rcases hn3 k hk2 with h1 | h1
      · exact .inl h1
      · exact .inr ⟨_, h1⟩
  · exact L.frame (L.later h.ins hl3) hF3 (fun k hk hi hs => spin_not_in hs (by unfold InPart at hi ⊢; rwa [hl3 k hk] at hi))
  · refine h.fp.trans (S' := RingPart ρ2 pre) (hF3.mono (fun k hk => .inl hk)) (fun k hk hr => ringPart_back h.later hk hr)
end
section
variable {α : Type} {T K : Nat} {ok : Int → Value → Prop} {In : α → Roles → World → Prop} {pk : α → Int → α × It}
variable {pre : List Int} {ρ : Roles} {sp : Nat} {q : Int} {gv : Bool} {v : Value} {ns : List Nd}
set_option maxRecDepth 100000 in
set_option maxHeartbeats 4000000 in
/-- THE WALK: Pick. -/
theorem spinPick_any (L : SrcLaw pre T K ok In pk) (hq1 : 1 ≤ q) (hq : q ≤ 64) (a : α) (n0 : Nd) (r0 : List Nd) (w : World) (hS : SpinAt pre ρ w sp q gv v (n0 :: r0)) (hI : In a ρ w) (hok : NdsOk gv (n0 :: r0)) (hoks : ∀ m ∈ n0 :: r0, ok m.id m.src) :
    Calls Try.prog 53 #[.pointer (some ⟨sp, 0, none⟩)] w (PickPost pre ρ In q pk w sp gv (n0 :: r0) a) := by
  have HL := Lib.hid L
  have HST := Lib.hid (PRel.start L hS hI hok hoks)
  have hsp := fp_lt_of_heap hS.head
  have HQ1 := Lib.hid hq1
  have HQ := Lib.hid hq
  clear L hS hI hok hoks hq1 hq
  go_enter Try.func53, Try.ntmps53
  go_wp2_with fail
  go_loopg [] (roundM gv (n0 :: r0)) (fun g wr => ∃ gv' n r a' v' ρr, PRel pre ρ In ok q pk w sp gv (n0 :: r0) a g wr gv' n r a' v' ρr)
  case atStart => exact ⟨gv, n0, r0, a, v, _, HST.out⟩
  case round =>
    obtain ⟨gv', n, r, a', v', ρr, hR⟩ := hrel
    have HR := Lib.hid hR
    clear hR
    obtain ⟨gb, off, cap, hv, hc⟩ := HR.out.ring.at (i := 0) (n := n) rfl
    have HV := Lib.hid hv
    have hfew : r.length + 1 ≤ 1000000 := by have := HR.out.ring.few; simpa using this
    have d1 : wr.cell? ⟨sp, 1, none⟩ = some (.slice (some ⟨gb, off, none⟩) (r.length + 1) cap) := by have := HR.out.ring.c1; rw [hv] at this; simpa using this
    have d2 := HR.out.ring.c2
    have d3 : wr.cell? ⟨gb, off, none⟩ = some (.pointer (some ⟨n.blk, 0, none⟩)) := by simpa using hc
    clear hv hc
    go_upto_if 24 with fail
    go_cut [5] (fun s wx => s = .pointer (some ⟨n.blk, 0, none⟩) ∧ SpinAt pre ρr wx sp q true v' (charge q gv' n :: r) ∧ Fp (SpinPart ρr pre) wr wx)
    case first =>
      rcases gv' with _ | _
      · have e1 : wr.cell? ⟨n.blk, 1, none⟩ = some (.int .i64 n.wt) := fr_cell_of_heap (HR.out.ring.node 0 n rfl).2 rfl
        have e2 : wr.cell? ⟨n.blk, 2, none⟩ = some (.int .i64 n.df) := fr_cell_of_heap (HR.out.ring.node 0 n rfl).2 rfl
        have f2 := fr_free_of_heap (i := 2) (HR.out.ring.node 0 n rfl).2
        have f3 := fr_free_of_heap (i := 2) HR.out.ring.head
        have c0 := HR.out.ring.c0
        have hg := HR.out.good.1
        have hm := mul_le_of HQ1.out HQ.out hg.1 hg.2.1
        have hw1 : wrap64 (q * n.wt) = q * n.wt := by unfold wrap64; omega
        have hw2 : wrap64 (n.df + q * n.wt) = n.df + q * n.wt := by have h3 := hg.2.2.1; have h4 := hg.2.2.2; simp at h4; unfold wrap64; omega
        clear hg hm
        go_wp2_with fail
        go_region
        clear d2 f2 f3 e1 e2 c0
        obtain ⟨w1, hw1'⟩ : ∃ w1 : World, w1 = wr.setCell ⟨n.blk, 2, none⟩ (.int .i64 (n.df + q * n.wt)) := ⟨_, rfl⟩
        have hne : sp ≠ n.blk := fun e => by have h1 := (HR.out.ring.node 0 n rfl).1; rw [← e, HR.out.ring.rs] at h1; simp at h1
        have hh1 : w1.heap[sp]? = some (.cells #[.int .i64 q, v', .bool false] 100 (0, 0)) := by rw [hw1', fr_setCell_other hne]; exact HR.out.ring.head
        have d2 : w1.cell? ⟨sp, 2, none⟩ = some (.bool false) := fr_cell_of_heap hh1 rfl
        have f2 := fr_free_of_heap (i := 2) hh1
        have HW1 := Lib.hid hw1'
        rw [← hw1']
        clear hh1 hne hw1'
        go_wp2_with fail
        go_meet
        case rel =>
          obtain ⟨hs, hf⟩ := spin_charge HR.out.ring (w' := (wr.setCell ⟨n.blk, 2, none⟩ (.int .i64 (n.df + q * n.wt))).setCell ⟨sp, 2, none⟩ (.bool true)) rfl rfl
          rw [← HW1.out] at hs hf
          have hb : Below (w1.setCell ⟨sp, 2, none⟩ (.bool true)).heap.size (w1.setCell ⟨sp, 2, none⟩ (.bool true)) (w1.drew.setCell ⟨sp, 2, none⟩ (.bool true)) := ⟨rfl, rfl, rfl, Nat.le_refl _, fun _ _ => rfl⟩
          exact ⟨rfl, hs.below hb, hf.then_below hb⟩
      · go_wp2_with fail
        go_meet
        case rel => exact ⟨rfl, HR.out.ring, Fp.refl _ _⟩
    case rest =>
      obtain ⟨rfl, hS1, hF1⟩ := hcut
      obtain ⟨x, hx⟩ : ∃ x : It, x = (pk a' n.id).2 := ⟨_, rfl⟩
      obtain ⟨m, hm⟩ : ∃ m : Nd, m = charge q gv' n := ⟨_, rfl⟩
      have hid := charge_id q gv' n
      rw [← hm] at hS1 hid
      have hIc : In a' ρr wc := HL.out.frame HR.out.ins hF1 (fun k _ hi hs => spin_not_in hs hi)
      have hon := HR.out.oks n List.mem_cons_self
      have hcost := HL.out.cost hIc hon
      obtain ⟨u, u', hsrc, hm1, hk1, hcall⟩ := HL.out.call hIc hon
      rw [← hx] at hcall hcost
      unfold itV at hcall
      have c3 : wc.cell? ⟨n.blk, 3, none⟩ = some (.iface T u) := by rw [← hsrc, ← hid.2.2.1, ← hid.2.1]; exact fr_cell_of_heap (hS1.node 0 m rfl).2 rfl
      have HX := Lib.hid hx
      have HM := Lib.hid hm
      have HID := Lib.hid hid
      have HC := Lib.hid hcost
      have HF1 := Lib.hid hF1
      have HS1 := Lib.hid hS1
      clear hx hm hid hcost hF1 hS1 d1 d2 d3 hIc hon hsrc
      go_wp2_with fail
      refine hcall.mono ?_
      rintro e w2 ⟨rfl, ρ2, hl2, hn2, hI2, hF2⟩
      have HS2 := Lib.hid (spin_call HS1.out hF2 hl2)
      have HL2 := Lib.hid hl2
      have HN2 := Lib.hid hn2
      have HI2 := Lib.hid hI2
      have HF2 := Lib.hid hF2
      clear hl2 hn2 hI2 hF2 hcall hm1 hk1 c3
      go_upto_region 7 with fail
      obtain ⟨w3, hw3⟩ : ∃ w3 : World, w3 = w2.alloc (.cells #[.int .i64 x.id, .int .i64 x.cost] 37) := ⟨_, rfl⟩
      obtain ⟨xb, hxb⟩ : ∃ xb : Nat, xb = w2.heap.size := ⟨_, rfl⟩
      rw [← hw3, ← hxb]
      have HB3 := Lib.hid (show Below w2.heap.size w2 w3 by rw [hw3]; exact box_below)
      have HX3 := Lib.hid (show w3.heap[xb]? = some (.cells #[.int .i64 x.id, .int .i64 x.cost] 37 (0, 0)) by rw [hw3, hxb]; exact fr_alloc_at)
      have HRD := Lib.hid (Round.mk' HL.out HR.out HM.out HX.out HC.out HF1.out HF2.out HL2.out HN2.out HS2.out HI2.out HB3.out)
      have HXB := Lib.hid hxb
      have HW3 := Lib.hid hw3
      clear hw3 hxb
      have x1 : w3.cell? ⟨xb, 1, none⟩ = some (.int .i64 x.cost) := fr_cell_of_heap HX3.out rfl
      have e2 : w3.cell? ⟨n.blk, 2, none⟩ = some (.int .i64 m.df) := by rw [← HID.out.2.1]; exact fr_cell_of_heap (HRD.out.ring.node 0 m rfl).2 rfl
      by_cases hle : x.cost ≤ m.df
      · have hd : decide (x.cost ≤ m.df) = true := decide_eq_true hle
        have HLE := Lib.hid hle
        clear hle
        go_quiet (fail)
        clear e2
        have hR3 := HRD.out.cell
        have x0 : w3.cell? ⟨xb, 0, none⟩ = some (.int .i64 x.id) := fr_cell_of_heap HX3.out rfl
        have z0 : w3.cell? ⟨w.heap.size, 0, none⟩ = some (.int .i64 0) := fr_cell_of_heap hR3 rfl
        have z1 : w3.cell? ⟨w.heap.size, 1, none⟩ = some (.int .i64 0) := fr_cell_of_heap hR3 rfl
        have g0 := fr_free_of_heap (i := 0) hR3
        have g1 := fr_free_of_heap (i := 1) hR3
        go_wp2_with fail
        clear hR3
        go_region
        clear x0 x1 z0 z1 g0 g1
        go_wp2_with fail
        obtain ⟨w4, hw4⟩ : ∃ w4 : World, w4 = ((w3.drewN (nq + 1)).setCell ⟨w.heap.size, 0, none⟩ (.int .i64 x.id)).setCell ⟨w.heap.size, 1, none⟩ (.int .i64 x.cost) := ⟨_, rfl⟩
        have hh4 : w4.heap[w.heap.size]? = some (.cells #[.int .i64 x.id, .int .i64 x.cost] 37 (0, 0)) := by rw [hw4]; exact fr_setCell_at (fr_setCell_at (w := w3.drewN (nq + 1)) HRD.out.cell)
        have HF4 := Lib.hid (show Fp (fun k => k = w.heap.size) w3 w4 by
          rw [hw4]
          have h0 : Fp (fun k => k = w.heap.size) w3 (w3.drewN (nq + 1)) := ⟨rfl, rfl, rfl, Nat.le_refl _, fun _ _ _ => rfl⟩
          exact (h0.setCell (p := ⟨w.heap.size, 0, none⟩) (fun _ => rfl) _).setCell (p := ⟨w.heap.size, 1, none⟩) (fun _ => rfl) _)
        have k0 : w4.cell? ⟨w.heap.size, 0, none⟩ = some (.int .i64 x.id) := fr_cell_of_heap hh4 rfl
        have k1 : w4.cell? ⟨w.heap.size, 1, none⟩ = some (.int .i64 x.cost) := fr_cell_of_heap hh4 rfl
        rw [← hw4]
        clear hw4 hh4
        refine bodyPost_ret (v := .tuple #[.pointer (some ⟨n.blk, 0, none⟩), .agg #[.int .i64 x.id, .int .i64 x.cost], .bool true]) (by simp [results, Try.results53, go_sem, k0, k1]) rfl ?_
        rw [← HID.out.2.1]
        exact HRD.out.grant HL.out HQ1.out HQ.out HLE.out HF4.out
      · have hd : decide (x.cost ≤ m.df) = false := decide_eq_false hle
        have HLE := Lib.hid hle
        clear hle
        go_quiet (fail)
        clear e2 x1
        have hr1 := HRD.out.ring
        have hsv : v'.ownBlock ≠ some sp := fun e => by have h1 := hr1.ra sp e; rw [hr1.rs] at h1; simp at h1
        have HSV := Lib.hid (fun e => hsv (Eq.symm e) : some sp ≠ v'.ownBlock)
        have HSP := Lib.hid (fp_lt_of_heap hr1.head)
        have HLN := Lib.hid (show (r.map Nd.blk).length < 1000000 by rw [List.length_map]; omega)
        have d1 : w3.cell? ⟨sp, 1, none⟩ = some (.slice (some ⟨gb, off, none⟩) (r.length + 1) cap) := by have := hr1.c1; rw [HV.out] at this; simpa using this
        have hcl : r.length + 1 ≤ cap := by obtain ⟨_, c, h1, h2⟩ := hr1.form; rw [HV.out] at h1; cases h1; simpa using h2
        clear hr1 hsv
        by_cases hcap : cap = 1
        · have hv2 : tailV v' = .slice (some ⟨gb, off, none⟩) r.length (cap - 1) := by rw [HV.out]; simp [tailV, hcap]
          have HSL := Lib.hid (show ArrIn 104 w3 (.slice (some ⟨gb, off, none⟩) r.length (cap - 1)) (r.map Nd.blk) by rw [← hv2]; exact (tail_arr HRD.out.ring.arr).1)
          have HOB := Lib.hid (show (Value.slice (some ⟨gb, off, none⟩) r.length (cap - 1)).ownBlock = v'.ownBlock by rw [← hv2]; exact (tail_arr HRD.out.ring.arr).2)
          clear hv2
          obtain rfl : r = [] := List.length_eq_zero_iff.1 (by omega)
          subst hcap
          have HSL := Lib.hid (show ArrIn 104 w3 (.slice (some ⟨gb, off, none⟩) 0 0) ([] : List Nat) from HSL.out)
          have HOB := Lib.hid (show (Value.slice (some ⟨gb, off, none⟩) 0 0).ownBlock = v'.ownBlock from HOB.out)
          go_upto_region 10 with (at_builtin; refine wpList_append_arr rfl _ _ 98 rfl 104 Try.underlying98 np_info (v := .slice (some ⟨gb, off, none⟩) 0 0) (bs := []) rfl (HSL.out.below ((below_drewN (Below.refl _ _) nq).alloc (Nat.le_refl _) _)) w3.heap.size n.blk rfl (cell_alloc_at rfl) HLN.out ?_; intro v2 wb harr hg hat; rw [HOB.out] at hg hat; obtain ⟨va, vn, vc, hvf⟩ : ∃ a n c, v2 = Value.slice a n c := (by obtain ⟨a, c, h1, _⟩ := harr.form; exact ⟨a, _, c, h1⟩); subst hvf; (have HHB := Lib.hid ((hg.block sp (Nat.lt_of_lt_of_le HSP.out box_below.size) HSV.out).trans (fr_alloc_old (w := w3.drewN nq) HRD.out.ring.head))); (have k1 := fr_cell_of_heap HHB.out (i := 1) rfl); (have g1 := fr_free_of_heap (i := 1) HHB.out))
          have HARR := Lib.hid harr
          have HG := Lib.hid hg
          have HAT := Lib.hid hat
          clear harr hg hat
          obtain ⟨w5, hw5⟩ : ∃ w5 : World, w5 = wb.setCell ⟨sp, 1, none⟩ (.slice va vn vc) := ⟨_, rfl⟩
          have HH5 := Lib.hid (show w5.heap[sp]? = some (.cells #[.int .i64 q, .slice va vn vc, .bool true] 100 (0, 0)) by rw [hw5]; exact fr_setCell_at HHB.out)
          have HW5 := Lib.hid hw5
          rw [← hw5]
          clear hw5 k1 g1
          have k2 : w5.cell? ⟨sp, 2, none⟩ = some (.bool true) := fr_cell_of_heap HH5.out rfl
          have g2 : w5.frozen? ⟨sp, 2, none⟩ = false := fr_free_of_heap HH5.out
          go_wp2_with fail
          go_roundg (roundM false ([] ++ [m]))
          case rel =>
            obtain ⟨n2, r2, ρ3, hp⟩ := HRD.out.rotate HL.out HQ1.out HQ.out (Int.not_le.2 HLE.out) (by rw [HID.out.2.1]; exact HARR.out) (hg3 HG.out) (by have h := HAT.out; simpa using h) (w5 := w5.setCell ⟨sp, 2, none⟩ (.bool false)) (by rw [HW5.out])
            exact ⟨false, n2, r2, _, _, ρ3, hp⟩
          case measure =>
            rw [HR.out.less]
            have h1 := HM.out
            have h2 := HX.out
            have h3 := HLE.out
            subst h1 h2
            exact roundM_less HQ1.out HQ.out HC.out.2 HR.out.good (Int.not_le.2 h3)
        · have hv2 : tailV v' = .slice (some ⟨gb, off + 1, none⟩) r.length (cap - 1) := by rw [HV.out]; simp [tailV, hcap]
          have HSL := Lib.hid (show ArrIn 104 w3 (.slice (some ⟨gb, off + 1, none⟩) r.length (cap - 1)) (r.map Nd.blk) by rw [← hv2]; exact (tail_arr HRD.out.ring.arr).1)
          have HOB := Lib.hid (show (Value.slice (some ⟨gb, off + 1, none⟩) r.length (cap - 1)).ownBlock = v'.ownBlock by rw [← hv2]; exact (tail_arr HRD.out.ring.arr).2)
          clear hv2
          go_upto_region 10 with (at_builtin; refine wpList_append_arr rfl _ _ 98 rfl 104 Try.underlying98 np_info (v := .slice (some ⟨gb, off + 1, none⟩) r.length (cap - 1)) (bs := r.map Nd.blk) rfl (HSL.out.below ((below_drewN (Below.refl _ _) nq).alloc (Nat.le_refl _) _)) w3.heap.size n.blk rfl (cell_alloc_at rfl) HLN.out ?_; intro v2 wb harr hg hat; rw [HOB.out] at hg hat; obtain ⟨va, vn, vc, hvf⟩ : ∃ a n c, v2 = Value.slice a n c := (by obtain ⟨a, c, h1, _⟩ := harr.form; exact ⟨a, _, c, h1⟩); subst hvf; (have HHB := Lib.hid ((hg.block sp (Nat.lt_of_lt_of_le HSP.out box_below.size) HSV.out).trans (fr_alloc_old (w := w3.drewN nq) HRD.out.ring.head))); (have k1 := fr_cell_of_heap HHB.out (i := 1) rfl); (have g1 := fr_free_of_heap (i := 1) HHB.out))
          have HARR := Lib.hid harr
          have HG := Lib.hid hg
          have HAT := Lib.hid hat
          clear harr hg hat
          obtain ⟨w5, hw5⟩ : ∃ w5 : World, w5 = wb.setCell ⟨sp, 1, none⟩ (.slice va vn vc) := ⟨_, rfl⟩
          have HH5 := Lib.hid (show w5.heap[sp]? = some (.cells #[.int .i64 q, .slice va vn vc, .bool true] 100 (0, 0)) by rw [hw5]; exact fr_setCell_at HHB.out)
          have HW5 := Lib.hid hw5
          rw [← hw5]
          clear hw5 k1 g1
          have k2 : w5.cell? ⟨sp, 2, none⟩ = some (.bool true) := fr_cell_of_heap HH5.out rfl
          have g2 : w5.frozen? ⟨sp, 2, none⟩ = false := fr_free_of_heap HH5.out
          go_wp2_with fail
          go_roundg (roundM false (r ++ [m]))
          case rel =>
            obtain ⟨n2, r2, ρ3, hp⟩ := HRD.out.rotate HL.out HQ1.out HQ.out (Int.not_le.2 HLE.out) (by rw [HID.out.2.1]; exact HARR.out) (hg3 HG.out) (by have h := HAT.out; simpa using h) (w5 := w5.setCell ⟨sp, 2, none⟩ (.bool false)) (by rw [HW5.out])
            exact ⟨false, n2, r2, _, _, ρ3, hp⟩
          case measure =>
            rw [HR.out.less]
            have h1 := HM.out
            have h2 := HX.out
            have h3 := HLE.out
            subst h1 h2
            exact roundM_less HQ1.out HQ.out HC.out.2 HR.out.good (Int.not_le.2 h3)
end
end Go.Proofs.Ytohkchilogmneaa
