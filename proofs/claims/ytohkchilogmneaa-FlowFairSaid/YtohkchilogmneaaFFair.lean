/-
  law15.FlowFair: the walk.
-/
import Derived.Test.YtohkchilogmneaaFairP4
import Derived.Test.YtohkchilogmneaaPairs
import Derived.Deep.CutBlock
namespace Go.Proofs.Ytohkchilogmneaa
open Go.RowKit

def wOf (a b c d : Int) : Int → Int := fun i => if i = 0 then a else if i = 1 then b else if i = 2 then c else d
theorem wOf_C (a b c d : Int) : wsC (wOf a b c d) = #[.int .i64 a, .int .i64 b, .int .i64 c, .int .i64 d] := rfl
theorem wOf_all {a b c d : Int} {p : Int → Prop} (h : ∀ i : Nat, i < 4 → p (wOf a b c d i)) : ∀ i, p (wOf a b c d i) := by
  have h0 := h 0 (by decide)
  have h1 := h 1 (by decide)
  have h2 := h 2 (by decide)
  have h3 := h 3 (by decide)
  simp [wOf] at h0 h1 h2 h3
  intro i
  unfold wOf
  split
  · exact h0
  · split
    · exact h1
    · split
      · exact h2
      · exact h3
def flatLk (ls : List Lk) : List Value := ls.flatMap (fun L => (lkC L).toList)
theorem flatLk_len (ls : List Lk) : (flatLk ls).length = ls.length * 12 := flat_len (fun L => (lkC L).toList) 12 (fun _ => rfl) ls
theorem flatLk_snoc (ls : List Lk) (L : Lk) : flatLk (ls ++ [L]) = flatLk ls ++ (lkC L).toList := by simp [flatLk]
theorem lks_own {w : World} {base : Nat} {v : Value} {ls : List Lk} (h : w.ownsRow base 29 12 v ls.length (flatLk ls)) : LksAt w v ls := by
  obtain ⟨a, cap, rfl, _, _, _, hc⟩ := own_cells h
  refine ⟨a, cap, rfl, fun k L hL => ?_⟩
  have hat : ∀ j u, (lkC L).toList[j]? = some u → (flatLk ls)[k * 12 + j]? = some u := fun j u hu => by
    have hj : j < 12 := (List.getElem?_eq_some_iff.1 hu).1
    unfold flatLk
    rw [flat_at (fun L => (lkC L).toList) 12 (fun _ => rfl) j hL hj]
    exact hu
  obtain ⟨g, rfl, _⟩ := hc _ _ (hat 0 _ rfl)
  refine ⟨g, 0, rfl, fun j u hu => ?_⟩
  obtain ⟨g', hg', _, _, h0, _⟩ := hc _ _ (hat j u hu)
  cases hg'
  rw [Nat.zero_add]
  exact h0
theorem ac_sz (x : Ac) : (Try.prog.info? 32).map (·.size) = some (encAc x).length := by
  rw [show (encAc x).length = 5 from rfl]
  kernel_rfl
theorem ac_one (x : Ac) : (encAc x).toArray.all (·.oneCell') = true := by simp [encAc, Value.oneCell']
theorem tot_erase : ∀ {l : List FRow} (k : Nat), totR (l.eraseIdx k) ≤ totR l
  | [], _ => by simp
  | x :: l, 0 => by simp [totR]
  | x :: l, k + 1 => by
    have := tot_erase (l := l) k
    simp [totR] at this ⊢
    omega
theorem drop_tot {gv : Bool} {rows : List FRow} {k : Nat} {r : FRow} (hr : rows[k]? = some r) (id : Int) : totR (withR k { r with its := dropIt r.its id } gv rows).2 ≤ totR rows := by
  unfold withR
  split
  · exact tot_erase k
  · have h := tot_set (y := { r with its := dropIt r.its id }) hr
    have h2 : (dropIt r.its id).length ≤ r.its.length := List.length_filter_le _ _
    simp only at h ⊢
    omega
theorem look_info : (Try.prog.info? 29).map (fun i => (i.zero, i.size, i.bytes)) = some (some (.agg #[.int .i64 0, .int .i64 0, .int .i64 0, .int .i64 0, .int .i64 0, .int .i64 0, .int .i64 0, .int .i64 0, .bool false, .bool false, .bool false, .bool false]), 12, 72) := by kernel_rfl
theorem lenF_pos {ws : Int → Int} {q C i : Int} {gv : Bool} : ∀ {rows : List FRow}, FOk ws q C gv rows → ((0 : Int) < lenF i rows ↔ hasF i rows) := by
  intro rows h
  have key : ∀ l : List FRow, (∀ r ∈ l, r.its ≠ []) → ((0 : Int) < lenF i l ↔ hasF i l) := by
    intro l
    induction l with
    | nil => intro _; simp [lenF, atF, hasF]
    | cons y l ih =>
      intro hl
      have ih := ih (fun r hr => hl r (List.mem_cons_of_mem _ hr))
      have hy := List.length_pos_iff.2 (hl y List.mem_cons_self)
      unfold lenF at ih ⊢
      rw [atF_cons, hasF_cons]
      by_cases e : y.id = i
      · rw [if_pos e]
        simp only [e, true_or, iff_true]
        omega
      · rw [if_neg e]
        simp only [e, false_or]
        exact ih
  exact key rows (fun r hr => (h.low r hr).2)
theorem pairs_of {ws : Int → Int} {q C : Int} {gs : List Gst} (h : LooksOk ws q C gs) (hlen : gs.length ≤ 151) (hq : 0 ≤ q) (hw : ∀ i, 1 ≤ ws i) : PairsOk ws q C (gs.map Prod.fst) := by
  intro i j hji hi k a last hlast ha hall
  rw [List.length_map] at hlast
  rw [List.getElem?_map] at hlast ha
  obtain ⟨gl, hgl, rfl⟩ := Option.map_eq_some_iff.1 hlast
  obtain ⟨ga, hga, rfl⟩ := Option.map_eq_some_iff.1 ha
  have hk : k < gs.length := (List.getElem?_eq_some_iff.1 hga).1
  exact looks_fair h hlen hq hw (i := i) (j := j) (by omega) ⟨by omega, by omega⟩ ⟨by omega, by omega⟩ hga (n := gs.length - 1 - k) (by rw [show k + (gs.length - 1 - k) = gs.length - 1 by omega]; exact hgl) (fun m g hm1 _ hg => hall m g.1 hm1 (by rw [List.getElem?_map, hg]; rfl))
def lk0 : Lk := ⟨fun _ => 0, fun _ => 0, fun _ => false⟩
/-- Where FlowFair's loop stands. -/
structure FState (ws : Int → Int) (q : Int) (W : World) (b4 b9 f k : Nat) (L : Lk) (gv : Bool) (rows : List FRow) (ρ : Roles) (wr : World) : Prop where
  st : RState q W f k gv rows ρ wr
  now : wr.heap[b9]? = some (.cells (lkC L) 29 (0, 0))
  nowR : ρ b9 = []
  wts : wr.heap[b4]? = some (.cells (wsC ws) 22 (0, 0))
  wtsR : ρ b4 = []
  far : W.heap.size ≤ b4 ∧ W.heap.size ≤ b9 ∧ b4 ≠ b9
/-- The looks' slice. -/
structure FLooks (ws : Int → Int) (q C : Int) (W : World) (b4 b9 : Nat) (gs : List Gst) (v : Value) (ρ : Roles) (wr : World) : Prop where
  own : wr.ownsRow W.heap.size 29 12 v (gs.map Prod.fst).length (flatLk (gs.map Prod.fst))
  far : ∀ b, v.ownBlock = some b → ρ b = [] ∧ b ≠ b4 ∧ b ≠ b9
  ok : LooksOk ws q C gs
theorem lk_setT (L : Lk) {i : Nat} (hi : i < 4) (n : Int) : (lkC L).setIfInBounds i (.int .i64 n) = lkC { L with t := upd L.t i n } := by
  match i, hi with
  | 0, _ => rfl
  | 1, _ => rfl
  | 2, _ => rfl
  | 3, _ => rfl
theorem lk_setD (L : Lk) {i : Nat} (hi : i < 4) (n : Int) : (lkC L).setIfInBounds (4 + i) (.int .i64 n) = lkC { L with d := upd L.d i n } := by
  match i, hi with
  | 0, _ => rfl
  | 1, _ => rfl
  | 2, _ => rfl
  | 3, _ => rfl
theorem lk_setB (L : Lk) {i : Nat} (hi : i < 4) (n : Bool) : (lkC L).setIfInBounds (8 + i) (.bool n) = lkC { L with b := upd L.b i n } := by
  match i, hi with
  | 0, _ => rfl
  | 1, _ => rfl
  | 2, _ => rfl
  | 3, _ => rfl
section
variable {ws : Int → Int} {q C : Int} {W wr w' : World} {b4 b9 f k : Nat} {L : Lk} {gv : Bool} {rows : List FRow} {ρ : Roles} {gs : List Gst} {v : Value}
theorem FState.on (h : FState ws q W b4 b9 f k L gv rows ρ wr) (hb : Below wr.heap.size wr w') : FState ws q W b4 b9 f k L gv rows ρ w' :=
  ⟨h.st.on hb, (hb.block _ (fp_lt_of_heap h.now)).trans h.now, h.nowR, (hb.block _ (fp_lt_of_heap h.wts)).trans h.wts, h.wtsR, h.far⟩
theorem FState.turn (h : FState ws q W b4 b9 f k L gv rows ρ wr) {ρ' : Roles} {gv' : Bool} {rows' : List FRow} {k' : Nat} (hl : Later ρ ρ' wr) (hn : NewRoles ρ' [0] wr.heap.size) (hR : RingAt [0] ρ' w' f q gv' rows') (hF : Fp (Part ρ [0]) wr w') (hk : totR rows' ≤ k') : FState ws q W b4 b9 f k' L gv' rows' ρ' w' :=
  ⟨h.st.turn hl hn hR hF hk, h.st.keep hF h.now h.nowR, (hl _ (fp_lt_of_heap h.now)).trans h.nowR, h.st.keep hF h.wts h.wtsR, (hl _ (fp_lt_of_heap h.wts)).trans h.wtsR, h.far⟩
theorem FState.more (h : FState ws q W b4 b9 f k L gv rows ρ wr) : FState ws q W b4 b9 f (k + 1) L gv rows ρ wr :=
  ⟨⟨h.st.ring, Nat.le_succ_of_le h.st.few, h.st.below, h.st.news, h.st.old⟩, h.now, h.nowR, h.wts, h.wtsR, h.far⟩
theorem FState.fence (h : FState ws q W b4 b9 f k L gv rows ρ wr) : FState ws q W b4 b9 f k L gv rows (fence ρ wr) wr :=
  ⟨h.st.fence, h.now, (fence_later ρ wr _ (fp_lt_of_heap h.now)).trans h.nowR, h.wts, (fence_later ρ wr _ (fp_lt_of_heap h.wts)).trans h.wtsR, h.far⟩
theorem FState.set (h : FState ws q W b4 b9 f k L gv rows ρ wr) {L' : Lk} (hF : Fp (fun j => j = b9) wr w') (hh : w'.heap[b9]? = some (.cells (lkC L') 29 (0, 0))) : FState ws q W b4 b9 f k L' gv rows ρ w' := by
  have hb : Below W.heap.size W w' := h.st.below.trans (hF.below h.st.below.size (fun j hj e => by have := h.far.2.1; omega))
  refine ⟨⟨h.st.ring.frame hF (fun j _ ⟨s, hs⟩ e => ?_), h.st.few, hb, h.st.news, h.st.old⟩, hh, h.nowR, hF.heap h.wts h.far.2.2, h.wtsR, h.far⟩
  rw [e, h.nowR] at hs
  simp at hs
theorem FState.farFp (h : FState ws q W b4 b9 f k L gv rows ρ wr) {S : Nat → Prop} (hF : Fp S wr w') (hS : ∀ j, S j → ρ j = [] ∧ j ≠ b4 ∧ j ≠ b9 ∧ W.heap.size ≤ j) : FState ws q W b4 b9 f k L gv rows ρ w' := by
  have hb : Below W.heap.size W w' := h.st.below.trans (hF.below h.st.below.size (fun j hj e => by have := (hS j e).2.2.2; omega))
  refine ⟨⟨h.st.ring.frame hF (fun j _ ⟨s, hs⟩ e => ?_), h.st.few, hb, h.st.news, h.st.old⟩, hF.heap h.now (fun e => (hS _ e).2.2.1 rfl), h.nowR, hF.heap h.wts (fun e => (hS _ e).2.1 rfl), h.wtsR, h.far⟩
  rw [(hS j e).1] at hs
  simp at hs
theorem FLooks.on (h : FLooks ws q C W b4 b9 gs v ρ wr) (hb : Below wr.heap.size wr w') : FLooks ws q C W b4 b9 gs v ρ w' := ⟨own_below h.own hb, h.far, h.ok⟩
theorem own_fp {w w' : World} {S : Nat → Prop} {base size n : Nat} {e : TypeId} {v : Value} {xs : List Value} (h : w.ownsRow base e size v n xs) (hF : Fp S w w') (hS : ∀ b, v.ownBlock = some b → ¬ S b) : w'.ownsRow base e size v n xs := by
  obtain ⟨hl, ⟨rfl, rfl⟩ | ⟨g, cap, cur, rfl, hg, hh, hr⟩⟩ := h
  · exact ⟨hl, .inl ⟨rfl, rfl⟩⟩
  · exact ⟨hl, .inr ⟨g, cap, cur, rfl, hg, hF.heap hh (hS g rfl), hr⟩⟩
theorem FLooks.turn (h : FLooks ws q C W b4 b9 gs v ρ wr) {ρ' : Roles} (hl : Later ρ ρ' wr) (hF : Fp (Part ρ [0]) wr w') : FLooks ws q C W b4 b9 gs v ρ' w' :=
  ⟨own_fp h.own hF (fun b hb ⟨s, hs⟩ => by rw [(h.far b hb).1] at hs; simp at hs), fun b hb => ⟨(hl b (by
    obtain ⟨_, ⟨rfl, _⟩ | ⟨g, cap, cur, rfl, _, hh, _⟩⟩ := h.own
    · cases hb
    · simp only [Value.ownBlock, Option.some.injEq] at hb
      subst hb
      exact fp_lt_of_heap hh)).trans (h.far b hb).1, (h.far b hb).2⟩, h.ok⟩
theorem FLooks.set (h : FLooks ws q C W b4 b9 gs v ρ wr) (hF : Fp (fun j => j = b9) wr w') : FLooks ws q C W b4 b9 gs v ρ w' :=
  ⟨own_fp h.own hF (fun b hb e => (h.far b hb).2.2 e), h.far, h.ok⟩
theorem FLooks.fence (h : FLooks ws q C W b4 b9 gs v ρ wr) : FLooks ws q C W b4 b9 gs v (fence ρ wr) wr :=
  ⟨h.own, fun b hb => ⟨(fence_later ρ wr b (by
    obtain ⟨_, ⟨rfl, _⟩ | ⟨g, cap, cur, rfl, _, hh, _⟩⟩ := h.own
    · cases hb
    · simp only [Value.ownBlock, Option.some.injEq] at hb
      subst hb
      exact fp_lt_of_heap hh)).trans (h.far b hb).1, (h.far b hb).2⟩, h.ok⟩
end
def FRel2 (ws : Int → Int) (q : Int) (W : World) (b4 b9 : Nat) (l : List Ac) (g : Nat) (i v c : Value) (wr : World) : Prop :=
  ∃ (k : Nat) (L : Lk) (gv : Bool) (rows : List FRow) (ρ : Roles) (gs : List Gst) (C : Int), g = l.length - k ∧ i = .int .i64 k ∧ k ≤ l.length ∧ c = .int .i64 C ∧ 1 ≤ C ∧ C ≤ 64 ∧ gs.length ≤ k + 1 ∧ gs[gs.length - 1]? = some (L, gv, rows) ∧
    FState ws q W b4 b9 (W.heap.size + 2) k L gv rows ρ wr ∧ FLooks ws q C W b4 b9 gs v ρ wr
section
variable {ws : Int → Int} {q C C' : Int} {W wr w10 : World} {b4 b9 f k n : Nat} {t d t' d' : Int → Int} {b b' : Int → Bool} {gv gv' : Bool} {rows rows' : List FRow} {ρ : Roles} {gs : List Gst} {v : Value} {L : Lk}
theorem look_next (hS : FState ws q W b4 b9 f k ⟨t', d', b'⟩ gv' rows' ρ wr) (hL : FLooks ws q C W b4 b9 gs v ρ wr) (hlast : gs[gs.length - 1]? = some (L, gv, rows)) (hM : Mid ws q L.t L.d gv rows C t' d' gv' rows' C') (hbb : ∀ j : Nat, j < 4 → b' j = decide ((0 : Int) < lenF j rows'))
    {gg gcap : Nat} (hown : w10.ownsRow W.heap.size 29 12 (.slice (some ⟨gg, 0, none⟩) ((gs.map Prod.fst).length + 1) gcap) ((gs.map Prod.fst).length + 1) (flatLk (gs.map Prod.fst) ++ (lkC ⟨t', d', b'⟩).toList)) (hg : wr.grownBy w10 v.ownBlock) (hat : v.ownBlock = some gg ∨ wr.heap.size ≤ gg) :
    FState ws q W b4 b9 f k ⟨t', d', b'⟩ gv' rows' (fence ρ wr) w10 ∧ FLooks ws q C' W b4 b9 (gs ++ [((⟨t', d', b'⟩ : Lk), gv', rows')]) (.slice (some ⟨gg, 0, none⟩) (gs.length + 1) gcap) (fence ρ wr) w10 := by
  have hb' : ∀ i, In4 i → (b' i = true ↔ hasF i rows') := fun i hi => by
    obtain ⟨n, rfl⟩ : ∃ n : Nat, i = n := ⟨i.toNat, by have := hi.1; omega⟩
    rw [hbb n (by have := hi.2; omega), decide_eq_true_iff]
    exact lenF_pos hM.ok
  have hlk := hL.ok.snoc (t := L.t) (d := L.d) (b := L.b) hlast hM hb'
  have hgr : Fp (fun j => v.ownBlock = some j) wr w10 := (Fp.refl _ wr).grown hg (fun j _ hj => hj)
  have hlt : ∀ j, v.ownBlock = some j → j < wr.heap.size := fun j hj => by
    obtain ⟨_, ⟨h3, _⟩ | ⟨g3, cap3, cur3, h3, _, hh3, _⟩⟩ := hL.own
    · rw [h3] at hj
      cases hj
    · rw [h3] at hj
      simp only [Value.ownBlock, Option.some.injEq] at hj
      subst hj
      exact fp_lt_of_heap hh3
  refine ⟨hS.fence.farFp hgr (fun j hj => ?_), ⟨?_, fun j hj => ?_, hlk⟩⟩
  · have h1 := hL.far j hj
    exact ⟨(fence_later ρ wr j (hlt j hj)).trans h1.1, h1.2.1, h1.2.2, own_block hL.own j hj⟩
  · have e : (gs ++ [((⟨t', d', b'⟩ : Lk), gv', rows')]).map Prod.fst = gs.map Prod.fst ++ [⟨t', d', b'⟩] := by simp
    rw [e, List.length_append, flatLk_snoc]
    rw [List.length_map] at hown ⊢
    exact hown
  · simp only [Value.ownBlock, Option.some.injEq] at hj
    subst hj
    rcases hat with h1 | h1
    · exact ⟨(hL.fence.far gg h1).1, (hL.far gg h1).2⟩
    · have h3 := fp_lt_of_heap hS.now
      have h4 := fp_lt_of_heap hS.wts
      exact ⟨by simp [Proofs.Ytohkchilogmneaa.fence, Nat.not_lt.2 h1], by omega, by omega⟩
theorem look_len {l : List Ac} {g : Gst} (h1 : gs.length ≤ k + 1) (h2 : l.length ≤ 150) (h3 : k < l.length) : (gs ++ [g]).length ≤ 151 := by
  rw [List.length_append, List.length_singleton]
  omega
theorem look_len2 {g : Gst} (h1 : gs.length ≤ k + 1) : (gs ++ [g]).length ≤ k + 1 + 1 := by
  rw [List.length_append, List.length_singleton]
  omega
theorem look_last {g : Gst} : (gs ++ [g])[(gs ++ [g]).length - 1]? = some g := by simp
theorem look_C (h : Mid ws q t d gv rows C t' d' gv' rows' C') (hC : 1 ≤ C) : 1 ≤ C' ∧ C' ≤ 64 := ⟨by have := h.grow; omega, h.top⟩
theorem look_n {g : Gst} {α : Type} (F : Nat → α) : F ((gs ++ [g]).map Prod.fst).length = F ((gs.map Prod.fst).length + 1) := by
  rw [List.map_append, List.length_append]
  rfl
theorem pairs_next (hL : FLooks ws q C W b4 b9 (gs ++ [(L, gv, rows)]) v ρ wr) (hlen : (gs ++ [(L, gv, rows)]).length ≤ 151) (hq1 : 1 ≤ q) (hq2 : q ≤ 64) (hw : ∀ i, 1 ≤ ws i ∧ ws i ≤ 16) (hC : 1 ≤ C ∧ C ≤ 64) :
    Calls Try.prog 18 #[v, .agg (wsC ws), .int .i64 q, .int .i64 C] wr (TrueBelow wr) :=
  pairs_any ((gs ++ [(L, gv, rows)]).map Prod.fst) v ws q C wr (lks_own hL.own) (by simp) (by rw [List.length_map]; omega) hw (by omega) (by omega) (pairs_of hL.ok hlen (by omega) (fun i => (hw i).1))
end
/-- Where the loop on what waits stands. -/
def FRel3 (ws : Int → Int) (q C : Int) (W : World) (b4 b9 k : Nat) (t d : Int → Int) (gv : Bool) (rows : List FRow) (ρ : Roles) (gs : List Gst) (v : Value) (g : Nat) (i : Value) (wr : World) : Prop :=
  ∃ (K : Nat) (b : Int → Bool), g = 4 - K ∧ i = .int .i64 K ∧ K ≤ 4 ∧ FState ws q W b4 b9 (W.heap.size + 2) k ⟨t, d, b⟩ gv rows ρ wr ∧ FLooks ws q C W b4 b9 gs v ρ wr ∧ ∀ j : Nat, j < K → b j = decide ((0 : Int) < lenF j rows)
def FRel1 (ws : Int → Int) (w1 : World) (g : Nat) (i : Value) (wr : World) : Prop := ∃ k : Nat, g = 4 - k ∧ i = .int .i64 k ∧ k ≤ 4 ∧ wr = w1 ∧ ∀ j : Nat, j < k → 1 ≤ ws j ∧ ws j ≤ 16
set_option maxRecDepth 100000 in
set_option maxHeartbeats 16000000 in
/-- THE WALK: FlowFair. -/
theorem flowFair_any (q : Int) (ws : Int → Int) (v : Value) (l : List Ac) (W : World) (hl : AcsAt W v l) (hok : ∀ y ∈ l, AcOk y) (hws : ∀ p : Int → Prop, (∀ i : Nat, i < 4 → p (ws i)) → ∀ i, p (ws i)) : Calls Try.prog 3 #[.int .i64 q, .agg (wsC ws), v] W (TrueBelow W) := by
  have HA := Lib.hid hl
  have HOK := Lib.hid hok
  have HWS := Lib.hid hws
  obtain ⟨a, cap, rfl⟩ := hl.form
  clear hl hok hws
  by_cases hq : 1 ≤ q ∧ q ≤ 64
  · obtain ⟨q1, q2⟩ := hq
    have HQ1 := Lib.hid q1
    have HQ2 := Lib.hid q2
    clear q1 q2
    go_enter Try.func3, Try.ntmps3
    go_wp2_with fail
    refine (flowNew_any q _ HQ1.out HQ2.out).mono ?_
    rintro e w1 ⟨rfl, hw1⟩
    have hz1 : (W.alloc (.cells (wsC ws) 22)).heap.size = W.heap.size + 1 := by simp
    rw [hz1]
    obtain ⟨ρ1, hs1⟩ := flowNew_state q (W.alloc (.cells (wsC ws) 22)) w1 HQ1.out HQ2.out hw1
    rw [hz1] at hs1
    have HS1 := Lib.hid hs1
    clear hw1 hs1 hz1
    by_cases hlen : 150 < l.length
    · have hd : decide (150 < (l.length : Int)) = true := decide_eq_true (by omega)
      go_wp2_with fail
      refine (live15_any _).mono ?_
      rintro e w2 ⟨rfl, hb⟩
      have HB := Lib.hid ((box_below.trans (HS1.out.below.mono (by simp))).trans (hb.mono (Nat.le_trans (by simp) HS1.out.below.size)))
      clear hb
      go_wp2_with fail
      go_ret
      exact ⟨rfl, HB.out⟩
    · have hd : decide (150 < (l.length : Int)) = false := decide_eq_false (by omega)
      have HLEN := Lib.hid (show l.length ≤ 150 by omega)
      have HW1 := Lib.hid ((HS1.out.below.block W.heap.size (by simp)).trans fr_alloc_at : w1.heap[W.heap.size]? = some (.cells (wsC ws) 22 (0, 0)))
      have HB1 := Lib.hid (box_below.trans (HS1.out.below.mono (by simp)) : Below W.heap.size W w1)
      go_wp2_with fail
      go_loopg [8] 4 (fun g i wr => FRel1 ws w1 g i wr)
      case atStart => exact ⟨0, rfl, rfl, by omega, rfl, fun j hj => by omega⟩
      case round =>
        obtain ⟨k, hg, rfl, hk, rfl, hall⟩ := hrel
        have HG := Lib.hid hg
        have HALL := Lib.hid hall
        clear hg hall
        by_cases hlt : k < 4
        · have c0 : wr.cell? ⟨W.heap.size, k, none⟩ = some (.int .i64 (ws k)) := fr_cell_of_heap HW1.out (ws_at ws hlt)
          have hkl : (k : Int) < 4 := by omega
          by_cases hw : 1 ≤ ws k ∧ ws k ≤ 16
          · have h1 : ¬ ws k < 1 := by omega
            have h2 : ¬ 16 < ws k := by omega
            have HW := Lib.hid hw
            clear hw
            go_wp2_with fail
            go_roundg (4 - (k + 1))
            case rel =>
              refine ⟨k + 1, rfl, by go_num, by omega, rfl, fun j hj => ?_⟩
              rcases Nat.lt_or_ge j k with h | h
              · exact HALL.out j h
              · obtain rfl : j = k := by omega
                exact HW.out
            case measure => have := HG.out; omega
          · have hw2 : ws k < 1 ∨ (¬ ws k < 1 ∧ 16 < ws k) := by omega
            rcases hw2 with h1 | ⟨h1, h2⟩
            all_goals
              clear hw
              go_wp2_with fail
              refine (live15_any _).mono ?_
              rintro e w2 ⟨rfl, hb⟩
              have HB := Lib.hid (HB1.out.trans (hb.mono HB1.out.size))
              clear hb
              go_wp2_with fail
              go_ret
              exact ⟨rfl, HB.out⟩
        · obtain rfl : k = 4 := by omega
          have HW := Lib.hid (HWS.out (fun n => 1 ≤ n ∧ n ≤ 16) HALL.out)
          go_upto_region 13 with (first
            | (refine wpList_store_new rfl 29 _ _ rfl wr.heap.size rfl #[.int .i64 0, .int .i64 0, .int .i64 0, .int .i64 0, .int .i64 0, .int .i64 0, .int .i64 0, .int .i64 0, .bool false, .bool false, .bool false, .bool false] rfl rfl (lk_sz lk0) rfl (lk_one lk0) ?_)
            | (refine wpList_load_agg (cs := #[.int .i64 0, .int .i64 0, .int .i64 0, .int .i64 0, .int .i64 0, .int .i64 0, .int .i64 0, .int .i64 0, .bool false, .bool false, .bool false, .bool false]) 29 fr_alloc_at Try.underlying29 rfl (lk_sz lk0) rfl _ rfl rfl ?_))
          obtain ⟨w3, hw3⟩ : ∃ w3 : World, w3 = (wr.alloc (.cells (lkC lk0) 29)).alloc (.cells (lkC lk0) 29) := ⟨_, rfl⟩
          rw [show #[Value.int .i64 0, .int .i64 0, .int .i64 0, .int .i64 0, .int .i64 0, .int .i64 0, .int .i64 0, .int .i64 0, .bool false, .bool false, .bool false, .bool false] = lkC lk0 from rfl, ← hw3]
          have HST := Lib.hid (show FRel2 ws q W W.heap.size wr.heap.size l l.length (.int .i64 0) (.slice (some ⟨wr.heap.size + 1, 0, none⟩) 1 1) (.int .i64 1) w3 from by
            have hz := HB1.out.size
            have hz2 := fp_lt_of_heap HW1.out
            have hnew : w3.heap[wr.heap.size]? = some (.cells (lkC lk0) 29 (0, 0)) := by rw [hw3]; exact fr_alloc_old fr_alloc_at
            have hnew2 : w3.heap[wr.heap.size + 1]? = some (.cells (lkC lk0) 29 (0, 0)) := by rw [hw3]; exact heap_alloc_two wr _ _
            have hb3 : Below wr.heap.size wr w3 := by rw [hw3]; exact box_below.alloc (by simp) _
            have hfn : ∀ j, wr.heap.size ≤ j → fence ρ1 wr j = [] := fun j hj => by simp [fence, Nat.not_lt.2 hj]
            have hR0 : RState q W (W.heap.size + 2) 0 false [] ρ1 wr := ⟨HS1.out.ring, HS1.out.few, HB1.out, HS1.out.news, fun j hj => HS1.out.old j (by simp; omega)⟩
            refine ⟨0, lk0, false, [], fence ρ1 wr, [(lk0, false, [])], 1, rfl, rfl, Nat.zero_le _, rfl, by decide, by decide, by decide, rfl, ⟨hR0.fence.on hb3, hnew, hfn _ (Nat.le_refl _), (hb3.block _ hz2).trans HW1.out, (fence_later ρ1 wr _ hz2).trans (HS1.out.old _ (by simp)), Nat.le_refl _, hz, by omega⟩, ⟨?_, fun b hb => ?_, looks_one⟩⟩
            · exact ⟨rfl, .inr ⟨wr.heap.size + 1, 1, lkC lk0, rfl, by omega, hnew2, Nat.le_refl _, by unfold maxLen; omega, rfl, rfl⟩⟩
            · simp only [Value.ownBlock, Option.some.injEq] at hb
              subst hb
              exact ⟨hfn _ (by omega), by omega, by omega⟩)
          obtain ⟨b9, hb9⟩ : ∃ b9 : Nat, b9 = wr.heap.size := ⟨_, rfl⟩
          rw [← hb9] at HST
          rw [← hb9]
          clear hw3 hb9
          go_loopg [12, 10, 11] l.length (fun g i v c wr => FRel2 ws q W W.heap.size b9 l g i v c wr)
          case atStart => exact HST.out
          case round =>
            obtain ⟨k, L, gv, rows, ρ, gs, C, hg, rfl, hk, rfl, hC1, hC2, hgs, hlast, hS, hL⟩ := hrel
            have HG := Lib.hid hg
            have HS := Lib.hid hS
            have HL := Lib.hid hL
            have HK := Lib.hid (And.intro hC1 (And.intro hC2 (And.intro hgs hlast)))
            have HFO := Lib.hid (hL.ok.ok _ (List.mem_of_getElem? hlast)).1
            clear hg hC1 hC2 hgs hlast hS hL
            by_cases hlt : k < l.length
            · obtain ⟨x, hx⟩ : ∃ x, l[k]? = some x := ⟨_, List.getElem?_eq_getElem hlt⟩
              have HXX := Lib.hid hx
              obtain ⟨g, off, cap', hv, hc⟩ := (HA.out.below HS.out.st.below).at hx
              cases hv
              have HX := Lib.hid (HOK.out x (List.mem_of_getElem? hx))
              have HRA := Lib.hid (show wr.rangeAt g (off + k * 5) (encAc x) from fun j u hu => by rw [Nat.add_assoc]; exact hc j u hu)
              have hkl : (k : Int) < (l.length : Int) := by omega
              clear hx hc
              go_upto_region 16 with (first
                | (refine wpList_load_mid rfl 32 _ rfl g (off + k * 5) rfl (encAc x) _ HRA.out Try.underlying32 rfl (ac_sz x) ?_)
                | (refine wpList_store_new rfl 32 _ _ rfl wr.heap.size rfl (encAc x).toArray rfl rfl (ac_sz x) rfl (ac_one x) ?_))
              simp only [Act.put]
              obtain ⟨w4, hw4⟩ : ∃ w4 : World, w4 = wr.alloc (.cells (encAc x).toArray 32) := ⟨_, rfl⟩
              obtain ⟨bx, hbx⟩ : ∃ bx : Nat, bx = wr.heap.size := ⟨_, rfl⟩
              rw [← hw4, ← hbx]
              have HBX := Lib.hid (show w4.heap[bx]? = some (.cells (encAc x).toArray 32 (0, 0)) by rw [hw4, hbx]; exact fr_alloc_at)
              have HS4 := Lib.hid (show FState ws q W W.heap.size b9 (W.heap.size + 2) k L gv rows (fence ρ wr) w4 by rw [hw4]; exact HS.out.fence.on box_below)
              have HL4 := Lib.hid (show FLooks ws q C W W.heap.size b9 gs u10 (fence ρ wr) w4 by rw [hw4]; exact HL.out.fence.on box_below)
              have HBXR := Lib.hid (show fence ρ wr bx = [] by rw [hbx]; simp [fence])
              have HFN := Lib.hid (show NewRoles (fence ρ wr) [0] w4.heap.size from fun j hj => .inl (by rw [hw4] at hj; simp at hj; simp [fence, show ¬ j < wr.heap.size by omega]))
              clear hw4 hbx
              have x0 : w4.cell? ⟨bx, 0, none⟩ = some (.int .i64 x.kind) := fr_cell_of_heap HBX.out rfl
              have x1 : w4.cell? ⟨bx, 1, none⟩ = some (.int .i64 x.flow) := fr_cell_of_heap HBX.out rfl
              by_cases hf : 0 ≤ x.flow ∧ x.flow ≤ 3
              · have h1 : ¬ x.flow < 0 := by omega
                have h2 : ¬ 3 < x.flow := by omega
                obtain ⟨fl, hfl⟩ : ∃ fl : Nat, x.flow = fl := ⟨x.flow.toNat, by omega⟩
                have HF := Lib.hid (show fl < 4 by omega)
                have HFL := Lib.hid hfl
                rw [hfl] at x1 h1 h2
                clear hf hfl
                go_upto_block 4 with fail
                go_cut [11] (fun c wx => ∃ (gv' : Bool) (rows' : List FRow) (ρ' : Roles) (t' d' : Int → Int) (C' : Int), c = .int .i64 C' ∧ FState ws q W W.heap.size b9 (W.heap.size + 2) (k + 1) ⟨t', d', L.b⟩ gv' rows' ρ' wx ∧ FLooks ws q C W W.heap.size b9 gs u10 ρ' wx ∧ Mid ws q L.t L.d gv rows C t' d' gv' rows' C')
                case first =>
                  by_cases hk0 : x.kind = 0
                  · have hkb : (x.kind == 0) = true := beq_iff_eq.2 hk0
                    have x3 : w4.cell? ⟨bx, 3, none⟩ = some (.int .i64 x.id) := fr_cell_of_heap HBX.out rfl
                    have x4 : w4.cell? ⟨bx, 4, none⟩ = some (.int .i64 x.cost) := fr_cell_of_heap HBX.out rfl
                    have s1 : w4.cell? ⟨W.heap.size, fl, none⟩ = some (.int .i64 (ws fl)) := fr_cell_of_heap HS4.out.wts (ws_at ws HF.out)
                    have hfl4 : (fl : Int) < 4 := by have := HF.out; omega
                    have HSD := Lib.hid (HS4.out.on (w' := w4.drew) ⟨rfl, rfl, rfl, Nat.le_refl _, fun _ _ => rfl⟩)
                    have HLD := Lib.hid (HL4.out.on (w' := w4.drew) ⟨rfl, rfl, rfl, Nat.le_refl _, fun _ _ => rfl⟩)
                    have HTOT := Lib.hid (show totR rows < 1000000 by have := HS4.out.st.few; have := HLEN.out; omega)
                    clear hk0
                    go_upto_region 21 with fail
                    go_region_held3 (fun w' => w'.cell? ⟨bx, 1, none⟩ = some (.int .i64 fl) ∧ w'.cell? ⟨bx, 3, none⟩ = some (.int .i64 x.id) ∧ w'.cell? ⟨bx, 4, none⟩ = some (.int .i64 x.cost) ∧ w'.cell? ⟨W.heap.size, fl, none⟩ = some (.int .i64 (ws fl)))
                      (first | go_keep | assumption | exact ⟨by rw [← HFL.out]; exact fr_cell_of_heap hbx9 rfl, fr_cell_of_heap hbx9 rfl, fr_cell_of_heap hbx9 rfl, fr_cell_of_heap hs9.wts (ws_at ws HF.out)⟩)
                      (first
                        | (go_at_call 13; refine (flowPush_any (pre := [0]) (ρ := Proofs.Ytohkchilogmneaa.fence ρ wr) (by decide) fl (ws fl) ⟨x.id, x.cost⟩ _ HSD.out.st.ring (i64_of (by have := HF.out; omega)) HX.out.2.2.2.1 HTOT.out).mono ?_; rintro e w9 ⟨rfl, ρ9, hl9, hn9, hR9, hF9⟩; (have hs9 := HSD.out.turn (k' := k + 1) hl9 hn9 hR9 hF9 (by have := HS4.out.st.few; have := tot_push (id := (fl : Int)) (wt := ws fl) (x := ⟨x.id, x.cost⟩) (rows := rows); omega)); (have hbx9 := HSD.out.st.keep hF9 (b := bx) HBX.out HBXR.out))
                        | (go_at_call 12; refine (num15_any _ _).mono ?_; rintro e w10 ⟨rfl, rfl⟩))
                    have HS9 := Lib.hid hs9
                    have HL9 := Lib.hid (HLD.out.turn hl9 hF9)
                    have HM := Lib.hid (Mid.push (t := L.t) (d := L.d) HFO.out HK.out.1 HK.out.2.1 (fun i => Int.mul_nonneg (by have := HQ1.out; omega) (by have := (HW.out i).1; omega)) (id := (fl : Int)) (x := ⟨x.id, x.cost⟩) (by have := HF.out; omega))
                    have x4 : w9.cell? ⟨bx, 4, none⟩ = some (.int .i64 x.cost) := fr_cell_of_heap hbx9 rfl
                    clear hs9 hbx9 hl9 hn9 hR9 hF9 x0 x1 x3 s1
                    by_cases h0 : pushE fl (ws fl) ⟨x.id, x.cost⟩ rows = 0
                    · have hb0 : (pushE fl (ws fl) ⟨x.id, x.cost⟩ rows == 0) = true := beq_iff_eq.2 h0
                      have H0 := Lib.hid h0
                      clear h0
                      by_cases hc : C < x.cost
                      · have HC := Lib.hid hc
                        go_wp2_with fail
                        go_meet
                        case rel => exact ⟨_, _, _, _, _, x.cost, rfl, HS9.out, HL9.out, by have h := HM.out; rw [if_pos H0.out, if_pos HC.out] at h; exact h⟩
                      · have HC := Lib.hid hc
                        go_wp2_with fail
                        go_meet
                        case rel => exact ⟨_, _, _, _, _, C, rfl, HS9.out, HL9.out, by have h := HM.out; rw [if_pos H0.out, if_neg (Int.not_lt.2 HC.out)] at h; exact h⟩
                    · have hb0 : (pushE fl (ws fl) ⟨x.id, x.cost⟩ rows == 0) = false := beq_eq_false_iff_ne.2 h0
                      have H0 := Lib.hid h0
                      clear h0
                      go_wp2_with fail
                      go_meet
                      case rel => exact ⟨_, _, _, _, _, C, rfl, HS9.out, HL9.out, by have h := HM.out; rw [if_neg H0.out] at h; exact h⟩
                  · have hkb : (x.kind == 0) = false := beq_eq_false_iff_ne.2 hk0
                    have HNN := Lib.hid (Mid.none (ws := ws) (q := q) (t := L.t) (d := L.d) HFO.out HK.out.2.1)
                    have HQW := Lib.hid (fun i => Int.mul_nonneg (by have := HQ1.out; omega) (by have := (HW.out i).1; omega) : ∀ i, 0 ≤ q * ws i)
                    clear hk0 x0
                    by_cases hk1 : x.kind = 1
                    · have hkb1 : (x.kind == 1) = true := beq_iff_eq.2 hk1
                      clear hk1
                      by_cases hne : rows = []
                      · have HNE := Lib.hid hne
                        clear hne
                        go_wp2_with fail
                        refine (flowTake_nil _ (HNE.out ▸ HS4.out.st.ring)).mono ?_
                        rintro e w9 ⟨rfl, hb9⟩
                        have HS9 := Lib.hid ((HS4.out.on hb9).on (box_below (o := .cells #[.int .i64 0, .int .i64 0] 37)))
                        have HL9 := Lib.hid ((HL4.out.on hb9).on (box_below (o := .cells #[.int .i64 0, .int .i64 0] 37)))
                        clear hb9
                        go_wp2_with fail
                        go_meet
                        case rel => exact ⟨_, _, _, _, _, C, rfl, HS9.out.more, HL9.out, HNN.out⟩
                      · have HNE := Lib.hid hne
                        clear hne
                        go_wp2_with fail
                        refine (flowTake_cons (by decide) _ HS4.out.st.ring HNE.out).mono ?_
                        rintro e w9 ⟨row, rest, ρ9, rfl, hp, hl9, hn9, hR9, hF9⟩
                        obtain ⟨hM, hin⟩ := Mid.take (t := L.t) (d := L.d) HFO.out HK.out.2.1 HQW.out hp
                        obtain ⟨rn, hrn⟩ : ∃ rn : Nat, row.id = rn := ⟨row.id.toNat, by have := hin.1; omega⟩
                        have hr4 : rn < 4 := by have := hin.2; omega
                        have hS9 := HS4.out.turn (k' := k + 1) hl9 hn9 hR9 hF9 (by have h1 := HS4.out.st.few; have h2 := picks_tot hp; have h3 := took_tot row rest; omega)
                        have hL9 := HL4.out.turn hl9 hF9
                        obtain ⟨y, hy⟩ : ∃ y, y = row.its.headD ⟨0, 0⟩ := ⟨_, rfl⟩
                        have hyc : headC row.its = y.cost := by rw [hy]; rfl
                        rw [← hy]
                        rw [hrn]
                        rw [hrn, hyc] at hM
                        unfold itV
                        have HM := Lib.hid hM
                        have HR4 := Lib.hid hr4
                        have HS9 := Lib.hid hS9
                        have HL9 := Lib.hid hL9
                        clear hp hl9 hn9 hR9 hF9 hM hin hr4 hS9 hL9 hy hyc hrn
                        have hrl : (rn : Int) < 4 := by have := HR4.out; omega
                        have hrg : ¬ (3 : Int) < (rn : Int) := by have := HR4.out; omega
                        have hrz : ¬ (rn : Int) < 0 := by omega
                        go_upto_region 28 with fail
                        obtain ⟨w10, hw10⟩ : ∃ w10 : World, w10 = w9.alloc (.cells #[.int .i64 y.id, .int .i64 y.cost] 37) := ⟨_, rfl⟩
                        obtain ⟨yb, hyb⟩ : ∃ yb : Nat, yb = w9.heap.size := ⟨_, rfl⟩
                        rw [← hw10, ← hyb]
                        have HS10 := Lib.hid (show FState ws q W W.heap.size b9 (W.heap.size + 2) (k + 1) L _ _ ρ9 w10 by rw [hw10]; exact HS9.out.on box_below)
                        have HL10 := Lib.hid (show FLooks ws q C W W.heap.size b9 gs u10 ρ9 w10 by rw [hw10]; exact HL9.out.on box_below)
                        have hyy : w10.heap[yb]? = some (.cells #[.int .i64 y.id, .int .i64 y.cost] 37 (0, 0)) := by rw [hw10, hyb]; exact fr_alloc_at
                        have y1 : w10.cell? ⟨yb, 1, none⟩ = some (.int .i64 y.cost) := fr_cell_of_heap hyy rfl
                        have n1 : w10.cell? ⟨b9, rn, none⟩ = some (.int .i64 (L.t rn)) := fr_cell_of_heap HS10.out.now (lk_t L HR4.out)
                        have f1 : w10.frozen? ⟨b9, rn, none⟩ = false := fr_free_of_heap HS10.out.now
                        have hw64 : wrap64 (L.t rn + y.cost) = L.t rn + y.cost := by
                          have h1 := HL10.out.ok.top _ (List.mem_of_getElem? HK.out.2.2.2) rn
                          have h2 := HK.out.2.2.1
                          have h3 := HLEN.out
                          have h4 := HM.out.up rn
                          rw [upd_same] at h4
                          simp only at h1
                          exact wrap_i64 (by omega)
                        clear hyy hw10 hyb
                        go_region
                        clear y1 n1 f1 hw64
                        obtain ⟨w11, hw11⟩ : ∃ w11 : World, w11 = (w10.setCell ⟨b9, rn, none⟩ (.int .i64 (L.t rn + y.cost))).drew := ⟨_, rfl⟩
                        rw [← hw11]
                        have hF11 : Fp (fun j => j = b9) w10 w11 := by rw [hw11]; exact ((Fp.refl (fun j => j = b9) w10).setCell (p := ⟨b9, rn, none⟩) (fun _ => rfl) _).drew
                        have HS11 := Lib.hid (HS10.out.set (L' := ⟨upd L.t rn (L.t rn + y.cost), L.d, L.b⟩) hF11 (by rw [hw11, ← lk_setT L HR4.out]; exact fr_setCell_at HS10.out.now))
                        have HL11 := Lib.hid (HL10.out.set hF11)
                        clear hw11 hF11
                        go_wp2_with fail
                        go_meet
                        case rel => exact ⟨_, _, _, _, _, C, rfl, HS11.out, HL11.out, HM.out⟩
                    · have hkb1 : (x.kind == 1) = false := beq_eq_false_iff_ne.2 hk1
                      clear hk1
                      by_cases hk2 : x.kind = 2
                      · have hkb2 : (x.kind == 2) = true := beq_iff_eq.2 hk2
                        clear hk2
                        by_cases hne : rows = []
                        · have HNE := Lib.hid hne
                          clear hne
                          go_wp2_with fail
                          refine (flowPick_nil _ (HNE.out ▸ HS4.out.st.ring)).mono ?_
                          rintro e w9 ⟨rfl, hb9⟩
                          have HS9 := Lib.hid (HS4.out.on hb9)
                          have HL9 := Lib.hid (HL4.out.on hb9)
                          clear hb9
                          go_wp2_with fail
                          go_meet
                          case rel => exact ⟨_, _, _, _, _, C, rfl, HS9.out.more, HL9.out, HNN.out⟩
                        · have HNE := Lib.hid hne
                          clear hne
                          go_wp2_with fail
                          refine (flowPick_cons (by decide) _ HS4.out.st.ring HNE.out).mono ?_
                          rintro e w9 ⟨row, rest, ρ9, rfl, hp, hl9, hn9, hR9, hF9⟩
                          have HM := Lib.hid (Mid.pick (t := L.t) (d := L.d) HFO.out HK.out.2.1 HQW.out hp)
                          have HS9 := Lib.hid (HS4.out.turn (k' := k + 1) hl9 hn9 hR9 hF9 (by have h1 := HS4.out.st.few; have h2 := picks_tot hp; omega))
                          have HL9 := Lib.hid (HL4.out.turn hl9 hF9)
                          clear hp hl9 hn9 hR9 hF9
                          go_wp2_with fail
                          go_meet
                          case rel => exact ⟨_, _, _, _, _, C, rfl, HS9.out, HL9.out, HM.out⟩
                      · have hkb2 : (x.kind == 2) = false := beq_eq_false_iff_ne.2 hk2
                        have x3 : w4.cell? ⟨bx, 3, none⟩ = some (.int .i64 x.id) := fr_cell_of_heap HBX.out rfl
                        clear hk2
                        rcases find_at (id := (fl : Int)) (rows := rows) with ⟨-, hn⟩ | ⟨kk, r, -, hr, hri, -⟩
                        · have HN := Lib.hid hn
                          clear hn
                          go_wp2_with fail
                          refine (flowDrop_none fl x.id _ HS4.out.st.ring HN.out).mono ?_
                          rintro e w9 ⟨rfl, hb9⟩
                          have HS9 := Lib.hid (HS4.out.on hb9)
                          have HL9 := Lib.hid (HL4.out.on hb9)
                          clear hb9
                          go_wp2_with fail
                          go_meet
                          case rel => exact ⟨_, _, _, _, _, C, rfl, HS9.out.more, HL9.out, HNN.out⟩
                        · have HRR := Lib.hid hr
                          have HRI := Lib.hid hri
                          rcases hh : hasIt x.id r.its with _ | _
                          · have HH := Lib.hid hh
                            clear hh hr hri
                            go_wp2_with fail
                            have hd := flowDrop_not kk r x.id w4 HS4.out.st.ring HRR.out HX.out.2.2.2.1 HH.out
                            rw [HRI.out] at hd
                            refine hd.mono ?_
                            rintro e w9 ⟨rfl, hb9⟩
                            have HS9 := Lib.hid (HS4.out.on hb9)
                            have HL9 := Lib.hid (HL4.out.on hb9)
                            clear hb9 hd
                            go_wp2_with fail
                            go_meet
                            case rel => exact ⟨_, _, _, _, _, C, rfl, HS9.out.more, HL9.out, HNN.out⟩
                          · obtain ⟨jj, z, hz, hzi⟩ := has_iff.1 hh
                            have HZ := Lib.hid hz
                            have HZI := Lib.hid hzi
                            have HM := Lib.hid (fun d' => by have h := Mid.drop (t := L.t) (d := L.d) (d' := d') HFO.out HK.out.2.1 hr x.id; rw [hri] at h; exact h)
                            clear hh hr hri hz hzi
                            go_wp2_with fail
                            have hd := flowDrop_some kk r z jj w4 HS4.out.st.ring HRR.out HZ.out
                            rw [HRI.out, HZI.out] at hd
                            refine hd.mono ?_
                            rintro e w9 ⟨rfl, hR9, hF9⟩
                            have HS9 := Lib.hid (HS4.out.turn (k' := k + 1) (Later.refl _ _) HFN.out hR9 hF9 (by have h1 := HS4.out.st.few; have h2 := drop_tot (gv := gv) HRR.out x.id; rw [HRI.out] at h2; omega))
                            have HL9 := Lib.hid (HL4.out.turn (Later.refl _ _) hF9)
                            have hx9 := HS4.out.st.keep hF9 HBX.out HBXR.out
                            have x1 : w9.cell? ⟨bx, 1, none⟩ = some (.int .i64 fl) := by rw [← HFL.out]; exact fr_cell_of_heap hx9 rfl
                            have hfl4 : (fl : Int) < 4 := by have := HF.out; omega
                            have n1 : w9.cell? ⟨b9, 4 + fl, none⟩ = some (.int .i64 (L.d fl)) := fr_cell_of_heap HS9.out.now (lk_d L HF.out)
                            have f1 : w9.frozen? ⟨b9, 4 + fl, none⟩ = false := fr_free_of_heap HS9.out.now
                            clear hR9 hF9 hx9 hd x3
                            go_upto_region 19 with fail
                            go_region
                            clear x1 n1 f1
                            obtain ⟨w11, hw11⟩ : ∃ w11 : World, w11 = (w9.setCell ⟨b9, 4 + fl, none⟩ (.int .i64 (wrap64 (L.d fl + 1)))).drew := ⟨_, rfl⟩
                            rw [← hw11]
                            have hF11 : Fp (fun j => j = b9) w9 w11 := by rw [hw11]; exact ((Fp.refl (fun j => j = b9) w9).setCell (p := ⟨b9, 4 + fl, none⟩) (fun _ => rfl) _).drew
                            have HS11 := Lib.hid (HS9.out.set (L' := ⟨L.t, upd L.d fl (wrap64 (L.d fl + 1)), L.b⟩) hF11 (by rw [hw11, ← lk_setD L HF.out]; exact fr_setCell_at HS9.out.now))
                            have HL11 := Lib.hid (HL9.out.set hF11)
                            clear hw11 hF11
                            go_wp2_with fail
                            go_meet
                            case rel => exact ⟨_, _, _, _, _, C, rfl, HS11.out, HL11.out, HM.out _⟩
                case rest =>
                  obtain ⟨gv', rows', ρ', t', d', C', rfl, hS5, hL5, hM⟩ := hcut
                  have HM := Lib.hid hM
                  have HST5 := Lib.hid (show FRel3 ws q C W W.heap.size b9 (k + 1) t' d' gv' rows' ρ' gs u10 4 (.int .i64 0) wc from ⟨0, L.b, rfl, rfl, by decide, hS5, hL5, fun j hj => by omega⟩)
                  clear hS5 hL5 hM x0 x1 h1 h2
                  go_wp2_with fail
                  go_loopg [17] 4 (fun g i wr => FRel3 ws q C W W.heap.size b9 (k + 1) t' d' gv' rows' ρ' gs u10 g i wr)
                  case atStart => exact HST5.out
                  case round =>
                    obtain ⟨K, b', hg, rfl, hK4, hS6, hL6, hbb⟩ := hrel
                    have HG3 := Lib.hid hg
                    have HS6 := Lib.hid hS6
                    have HL6 := Lib.hid hL6
                    have HBB := Lib.hid hbb
                    clear hg hS6 hL6 hbb
                    by_cases hKl : K < 4
                    · have hKi : (K : Int) < 4 := by omega
                      go_wp2_with fail
                      refine (flowLen_any K _ HS6.out.st.ring).mono ?_
                      rintro e w7 ⟨rfl, hb7⟩
                      have HS7 := Lib.hid (HS6.out.on hb7)
                      have HL7 := Lib.hid (HL6.out.on hb7)
                      clear hb7
                      have n1 : w7.cell? ⟨b9, 8 + K, none⟩ = some (.bool (b' K)) := fr_cell_of_heap HS7.out.now (lk_b _ hKl)
                      have f1 : w7.frozen? ⟨b9, 8 + K, none⟩ = false := fr_free_of_heap HS7.out.now
                      obtain ⟨bb, hbb⟩ : ∃ bb, bb = decide ((0 : Int) < lenF K rows') := ⟨_, rfl⟩
                      go_upto_region 33 with fail
                      clear n1 f1
                      rw [← hbb]
                      have HBBB := Lib.hid hbb
                      clear hbb
                      obtain ⟨w8, hw8⟩ : ∃ w8 : World, w8 = w7.setCell ⟨b9, 8 + K, none⟩ (.bool bb) := ⟨_, rfl⟩
                      rw [← hw8]
                      have hF8 : Fp (fun j => j = b9) w7 w8 := by rw [hw8]; exact (Fp.refl (fun j => j = b9) w7).setCell (p := ⟨b9, 8 + K, none⟩) (fun _ => rfl) _
                      have HS8 := Lib.hid (HS7.out.set (L' := ⟨t', d', upd b' K bb⟩) hF8 (by rw [hw8, ← lk_setB ⟨t', d', b'⟩ hKl]; exact fr_setCell_at HS7.out.now))
                      have HL8 := Lib.hid (HL7.out.set hF8)
                      clear hw8 hF8
                      go_wp2_with fail
                      go_roundg (4 - (K + 1))
                      case rel =>
                        refine ⟨K + 1, upd b' K bb, rfl, by go_num, by omega, HS8.out, HL8.out, fun j hj => ?_⟩
                        by_cases e : j = K
                        · subst e
                          rw [upd_same]
                          exact HBBB.out
                        · rw [upd_other _ (by omega)]
                          exact HBB.out j (by omega)
                      case measure => have := HG3.out; omega
                    · obtain rfl : K = 4 := by omega
                      go_upto_region 35 with fail
                      have hgl : (gs.map Prod.fst).length ≤ 151 := by rw [List.length_map]; have := HK.out.2.2.1; have := HLEN.out; omega
                      have hc1 : W.heap.size ≤ wr.heap.size := HS6.out.st.below.size
                      have hc2 : (gs.map Prod.fst).length < 140737488355328 := by omega
                      have hc3 : ((gs.map Prod.fst).length + 1) * 72 ≤ 140737488355328 := by omega
                      go_upto_region 36 with (first
                        | (refine wpList_load_agg (cs := #[.int .i64 (t' 0), .int .i64 (t' 1), .int .i64 (t' 2), .int .i64 (t' 3), .int .i64 (d' 0), .int .i64 (d' 1), .int .i64 (d' 2), .int .i64 (d' 3), .bool (b' 0), .bool (b' 1), .bool (b' 2), .bool (b' 3)]) 29 HS6.out.now Try.underlying29 rfl (lk_sz ⟨t', d', b'⟩) rfl _ rfl rfl ?_)
                        | (at_builtin; refine wpList_append_at (us := #[.int .i64 (t' 0), .int .i64 (t' 1), .int .i64 (t' 2), .int .i64 (t' 3), .int .i64 (d' 0), .int .i64 (d' 1), .int .i64 (d' 2), .int .i64 (d' 3), .bool (b' 0), .bool (b' 1), .bool (b' 2), .bool (b' 3)]) rfl _ _ 30 rfl W.heap.size _ 12 72 Try.underlying30 look_info rfl (by decide) u10 (gs.map Prod.fst).length (flatLk (gs.map Prod.fst)) rfl HL6.out.own rfl rfl (by simp [Value.oneCell']) ?c1 ?c2 ?c3 ?_; (case c1 => exact hc1); (case c2 => exact hc2); (case c3 => exact hc3); intro gg gcap w10 hown10 hg10 hat10))
                      obtain ⟨hS10, hL10⟩ := look_next HS6.out HL6.out HK.out.2.2.2 HM.out HBB.out hown10 hg10 hat10
                      have HS10 := Lib.hid hS10
                      have HL10 := Lib.hid hL10
                      clear hown10 hg10 hat10 hS10 hL10 hc1 hc2 hc3 hgl
                      go_wp2_with (refine wpList_load_agg 22 HS10.out.wts Try.underlying22 rfl (ws_sz ws) rfl _ rfl rfl ?_)
                      have hpairs := pairs_next HL10.out (look_len HK.out.2.2.1 HLEN.out hlt) HQ1.out HQ2.out HW.out (look_C HM.out HK.out.1)
                      refine hpairs.mono ?_
                      rintro e w11 ⟨rfl, hb11⟩
                      have HS11 := Lib.hid (HS10.out.on hb11)
                      have HL11 := Lib.hid (HL10.out.on hb11)
                      clear hb11 hpairs
                      go_wp2_with fail
                      go_roundg (l.length - (k + 1))
                      case rel => exact ⟨k + 1, _, _, _, _, _, C', rfl, by go_num, by omega, rfl, (look_C HM.out HK.out.1).1, HM.out.top, look_len2 HK.out.2.2.1, look_last, HS11.out, HL11.out⟩
                      case measure => have := HG.out; omega
              · have hf2 : x.flow < 0 ∨ (¬ x.flow < 0 ∧ 3 < x.flow) := by omega
                clear hf
                rcases hf2 with h1 | ⟨h1, h2⟩
                all_goals
                  go_wp2_with fail
                  go_roundg (l.length - (k + 1))
                  case rel => exact ⟨k + 1, L, gv, rows, _, gs, C, rfl, by go_num, by omega, rfl, HK.out.1, HK.out.2.1, by have := HK.out.2.2.1; omega, HK.out.2.2.2, HS4.out.more, HL4.out⟩
                  case measure => have := HG.out; omega
            · go_wp2_with fail
              refine (live15_any _).mono ?_
              rintro e w2 ⟨rfl, hb2⟩
              have HB2 := Lib.hid (HS.out.st.below.trans (hb2.mono HS.out.st.below.size))
              clear hb2
              go_wp2_with fail
              go_ret
              exact ⟨rfl, HB2.out⟩
  · have HQ := Lib.hid hq
    clear hq
    go_enter Try.func3, Try.ntmps3
    go_wp2_with fail
    refine (flowNew_nil q _ HQ.out).mono ?_
    rintro e w1 ⟨rfl, hb1⟩
    have HB1 := Lib.hid (box_below2 hb1)
    clear hb1
    rcases hlen : decide (150 < (l.length : Int)) with _ | _
    all_goals
      go_wp2_with fail
      refine (live15_any _).mono ?_
      rintro e w2 ⟨rfl, hb2⟩
      have HB2 := Lib.hid (HB1.out.trans (hb2.mono HB1.out.size))
      clear hb2
      go_wp2_with fail
      go_ret
      exact ⟨rfl, HB2.out⟩
end Go.Proofs.Ytohkchilogmneaa
