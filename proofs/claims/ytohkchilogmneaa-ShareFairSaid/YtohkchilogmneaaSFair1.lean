/-
  law16.ShareFair: where its loop stands.
-/
import Derived.Test.YtohkchilogmneaaSFairL
import Derived.Test.YtohkchilogmneaaOpen16
namespace Go.Proofs.Ytohkchilogmneaa
open Go.RowKit

def w4Of (a b c d : Int) : Int → Int := fun i => if i = 0 then a else if i = 1 then b else if i = 2 then c else d
def w3Of (r0 r1 r2 : Int → Int) : Int → Int → Int := fun u => if u = 0 then r0 else if u = 1 then r1 else r2
theorem w3Of_C (a0 a1 a2 a3 b0 b1 b2 b3 c0 c1 c2 c3 : Int) : w3C (w3Of (w4Of a0 a1 a2 a3) (w4Of b0 b1 b2 b3) (w4Of c0 c1 c2 c3)) = #[.int .i64 a0, .int .i64 a1, .int .i64 a2, .int .i64 a3, .int .i64 b0, .int .i64 b1, .int .i64 b2, .int .i64 b3, .int .i64 c0, .int .i64 c1, .int .i64 c2, .int .i64 c3] := rfl
theorem w4Of_all {a b c d : Int} {p : Int → Prop} (h : ∀ i : Nat, i < 4 → p (w4Of a b c d i)) : ∀ i, p (w4Of a b c d i) := by
  have h0 := h 0 (by decide)
  have h1 := h 1 (by decide)
  have h2 := h 2 (by decide)
  have h3 := h 3 (by decide)
  simp [w4Of] at h0 h1 h2 h3
  intro i
  unfold w4Of
  split
  · exact h0
  · split
    · exact h1
    · split
      · exact h2
      · exact h3
theorem w3Of_all {a0 a1 a2 a3 b0 b1 b2 b3 c0 c1 c2 c3 : Int} {p : Int → Prop} (h : ∀ u i : Nat, u < 3 → i < 4 → p (w3Of (w4Of a0 a1 a2 a3) (w4Of b0 b1 b2 b3) (w4Of c0 c1 c2 c3) u i)) : ∀ u i, p (w3Of (w4Of a0 a1 a2 a3) (w4Of b0 b1 b2 b3) (w4Of c0 c1 c2 c3) u i) := by
  have h0 := w4Of_all (p := p) (fun i hi => h 0 i (by decide) hi)
  have h1 := w4Of_all (p := p) (fun i hi => h 1 i (by decide) hi)
  have h2 := w4Of_all (p := p) (fun i hi => h 2 i (by decide) hi)
  intro u
  unfold w3Of
  split
  · exact h0
  · split
    · exact h1
    · exact h2
def flatLt (ls : List Lt) : List Value := ls.flatMap (fun L => (ltC L).toList)
theorem flatLt_snoc (ls : List Lt) (L : Lt) : flatLt (ls ++ [L]) = flatLt ls ++ (ltC L).toList := by simp [flatLt]
theorem lts_own {w : World} {base : Nat} {v : Value} {ls : List Lt} (h : w.ownsRow base 67 36 v ls.length (flatLt ls)) : LtsAt w v ls := by
  obtain ⟨a, cap, rfl, _, _, _, hc⟩ := own_cells h
  refine ⟨a, cap, rfl, fun k L hL => ?_⟩
  have hat : ∀ j u, (ltC L).toList[j]? = some u → (flatLt ls)[k * 36 + j]? = some u := fun j u hu => by
    have hj : j < 36 := (List.getElem?_eq_some_iff.1 hu).1
    unfold flatLt
    rw [flat_at (fun L => (ltC L).toList) 36 (fun _ => rfl) j hL hj]
    exact hu
  obtain ⟨g, rfl, _⟩ := hc _ _ (hat 0 _ rfl)
  refine ⟨g, 0, rfl, fun j u hu => ?_⟩
  obtain ⟨g', hg', _, _, h0, _⟩ := hc _ _ (hat j u hu)
  cases hg'
  rw [Nat.zero_add]
  exact h0
theorem lt_info : (Try.prog.info? 67).map (fun i => (i.zero, i.size, i.bytes)) = some (some (.agg (ltC lt0)), 36, 208) := by kernel_rfl
theorem entE_sz (x : Ent) : (Try.prog.info? 70).map (·.size) = some (encEnt x).length := by
  rw [show (encEnt x).length = 8 from rfl]
  kernel_rfl
theorem entE_one (x : Ent) : (encEnt x).toArray.all (·.oneCell') = true := by simp [encEnt, Value.oneCell']
def entOb (x : Ent) : Obj := .cells (encEnt x).toArray 70 (0, 0)
theorem ent_cellsS {w : World} {b : Nat} {x : Ent} (h : w.heap[b]? = some (entOb x)) : w.cell? ⟨b, 2, none⟩ = some (.int .i64 x.ten) ∧ w.cell? ⟨b, 4, none⟩ = some (.int .i64 x.inv) ∧ w.cell? ⟨b, 6, none⟩ = some (.int .i64 x.id) ∧ w.cell? ⟨b, 7, none⟩ = some (.int .i64 x.cost) :=
  ⟨fr_cell_of_heap h rfl, fr_cell_of_heap h rfl, fr_cell_of_heap h rfl, fr_cell_of_heap h rfl⟩
theorem ent_set {w w' : World} {b : Nat} {x : Ent} (h : w.heap[b]? = some (entOb x)) {n m : Int} (hw : w' = ((w.setCell ⟨b, 3, none⟩ (.int .i64 n)).setCell ⟨b, 5, none⟩ (.int .i64 m)).drew) : w'.heap[b]? = some (entOb { x with tw := n, iw := m }) := by
  rw [hw]
  exact fr_setCell_at (fr_setCell_at h)
theorem ent_set_fp {w w' : World} {b : Nat} {n m : Int} (hw : w' = ((w.setCell ⟨b, 3, none⟩ (.int .i64 n)).setCell ⟨b, 5, none⟩ (.int .i64 m)).drew) : Fp (fun j => j = b) w w' := by
  rw [hw]
  exact (((Fp.refl (fun j => j = b) w).setCell (p := ⟨b, 3, none⟩) (fun _ => rfl) _).setCell (p := ⟨b, 5, none⟩) (fun _ => rfl) _).drew
theorem built_look : Try.prog.built 67 [] = some (ltC lt0) := by kernel_rfl
theorem wpList_build0 {P : Program} {ops : Array Oper} {rest : List Oper} {o : Oper} {a : Act} {w : World} {Q : Exit → Act → World → Prop} (hg : o.guard = none) (t : TypeId) (ho : o.op = .build t #[]) {cells : Array Value} (hb : P.built t [] = some cells) (h : wpList P ops Q rest (a.put o.dst (.agg cells)) w) : wpList P ops Q (o :: rest) a w :=
  wpList_build hg t #[] ho (by simp [hb]) (by simpa [hb] using h)
/-- Where ShareFair's loop stands. -/
structure ShF (w3 : Int → Int → Int) (q : Int) (W : World) (b4 b9 f k : Nat) (L : Lt) (gv : Bool) (rows : List TRow) (ρ : Roles) (wr : World) : Prop where
  st : SState q W f k gv rows ρ wr
  now : wr.heap[b9]? = some (.cells (ltC L) 67 (0, 0))
  nowR : ρ b9 = []
  wts : wr.heap[b4]? = some (.cells (w3C w3) 61 (0, 0))
  wtsR : ρ b4 = []
  far : W.heap.size ≤ b4 ∧ W.heap.size ≤ b9 ∧ b4 ≠ b9
/-- The looks' slice. -/
structure ShL (w3 : Int → Int → Int) (q C : Int) (W : World) (b4 b9 : Nat) (gs : List GstT) (v : Value) (ρ : Roles) (wr : World) : Prop where
  own : wr.ownsRow W.heap.size 67 36 v (gs.map Prod.fst).length (flatLt (gs.map Prod.fst))
  far : ∀ b, v.ownBlock = some b → ρ b = [] ∧ b ≠ b4 ∧ b ≠ b9
  ok : LooksT (fun u => w3 u 3) w3 q C gs
section
variable {w3 : Int → Int → Int} {q C : Int} {W wr w' : World} {b4 b9 f k : Nat} {L : Lt} {gv : Bool} {rows : List TRow} {ρ : Roles} {gs : List GstT} {v : Value}
theorem ShF.on (h : ShF w3 q W b4 b9 f k L gv rows ρ wr) (hb : Below wr.heap.size wr w') : ShF w3 q W b4 b9 f k L gv rows ρ w' :=
  ⟨h.st.on hb, (hb.block _ (fp_lt_of_heap h.now)).trans h.now, h.nowR, (hb.block _ (fp_lt_of_heap h.wts)).trans h.wts, h.wtsR, h.far⟩
theorem ShF.turn (h : ShF w3 q W b4 b9 f k L gv rows ρ wr) {ρ' : Roles} {gv' : Bool} {rows' : List TRow} {k' : Nat} (hl : Later ρ ρ' wr) (hn : NewRoles ρ' [0] wr.heap.size) (hR : ShareAt [0] ρ' w' f q gv' rows') (hF : Fp (Part ρ [0]) wr w') (hk : totT rows' ≤ k') : ShF w3 q W b4 b9 f k' L gv' rows' ρ' w' :=
  ⟨h.st.turn hl hn hR hF hk, h.st.keep hF h.now h.nowR, (hl _ (fp_lt_of_heap h.now)).trans h.nowR, h.st.keep hF h.wts h.wtsR, (hl _ (fp_lt_of_heap h.wts)).trans h.wtsR, h.far⟩
theorem ShF.more (h : ShF w3 q W b4 b9 f k L gv rows ρ wr) : ShF w3 q W b4 b9 f (k + 1) L gv rows ρ wr :=
  ⟨h.st.more (Nat.le_succ k), h.now, h.nowR, h.wts, h.wtsR, h.far⟩
theorem ShF.fence (h : ShF w3 q W b4 b9 f k L gv rows ρ wr) : ShF w3 q W b4 b9 f k L gv rows (fence ρ wr) wr :=
  ⟨h.st.fence, h.now, (fence_later ρ wr _ (fp_lt_of_heap h.now)).trans h.nowR, h.wts, (fence_later ρ wr _ (fp_lt_of_heap h.wts)).trans h.wtsR, h.far⟩
theorem ShF.set (h : ShF w3 q W b4 b9 f k L gv rows ρ wr) {L' : Lt} (hF : Fp (fun j => j = b9) wr w') (hh : w'.heap[b9]? = some (.cells (ltC L') 67 (0, 0))) : ShF w3 q W b4 b9 f k L' gv rows ρ w' := by
  have hb : Below W.heap.size W w' := h.st.below.trans (hF.below h.st.below.size (fun j hj e => by have := h.far.2.1; omega))
  refine ⟨⟨h.st.ring.frame hF (fun j _ ⟨s, hs⟩ e => ?_), h.st.few, hb, h.st.news, h.st.old⟩, hh, h.nowR, hF.heap h.wts h.far.2.2, h.wtsR, h.far⟩
  rw [e, h.nowR] at hs
  simp at hs
theorem ShF.farFp (h : ShF w3 q W b4 b9 f k L gv rows ρ wr) {S : Nat → Prop} (hF : Fp S wr w') (hS : ∀ j, S j → ρ j = [] ∧ j ≠ b4 ∧ j ≠ b9 ∧ W.heap.size ≤ j) : ShF w3 q W b4 b9 f k L gv rows ρ w' := by
  have hb : Below W.heap.size W w' := h.st.below.trans (hF.below h.st.below.size (fun j hj e => by have := (hS j e).2.2.2; omega))
  refine ⟨⟨h.st.ring.frame hF (fun j _ ⟨s, hs⟩ e => ?_), h.st.few, hb, h.st.news, h.st.old⟩, hF.heap h.now (fun e => (hS _ e).2.2.1 rfl), h.nowR, hF.heap h.wts (fun e => (hS _ e).2.1 rfl), h.wtsR, h.far⟩
  rw [(hS j e).1] at hs
  simp at hs
theorem ShF.keep (h : ShF w3 q W b4 b9 f k L gv rows ρ wr) (hF : Fp (Part ρ [0]) wr w') {b : Nat} {o : Obj} (hb : wr.heap[b]? = some o) (hr : ρ b = []) : w'.heap[b]? = some o := h.st.keep hF hb hr
theorem own_fpS {w w' : World} {S : Nat → Prop} {base size n : Nat} {e : TypeId} {v : Value} {xs : List Value} (h : w.ownsRow base e size v n xs) (hF : Fp S w w') (hS : ∀ b, v.ownBlock = some b → ¬ S b) : w'.ownsRow base e size v n xs := by
  obtain ⟨hl, ⟨rfl, rfl⟩ | ⟨g, cap, cur, rfl, hg, hh, hr⟩⟩ := h
  · exact ⟨hl, .inl ⟨rfl, rfl⟩⟩
  · exact ⟨hl, .inr ⟨g, cap, cur, rfl, hg, hF.heap hh (hS g rfl), hr⟩⟩
theorem ShL.lt (h : ShL w3 q C W b4 b9 gs v ρ wr) {j : Nat} (hj : v.ownBlock = some j) : j < wr.heap.size := by
  obtain ⟨_, ⟨h3, _⟩ | ⟨g3, cap3, cur3, h3, _, hh3, _⟩⟩ := h.own
  · rw [h3] at hj
    cases hj
  · rw [h3] at hj
    simp only [Value.ownBlock, Option.some.injEq] at hj
    subst hj
    exact fp_lt_of_heap hh3
theorem ShL.on (h : ShL w3 q C W b4 b9 gs v ρ wr) (hb : Below wr.heap.size wr w') : ShL w3 q C W b4 b9 gs v ρ w' := ⟨own_below h.own hb, h.far, h.ok⟩
theorem ShL.turn (h : ShL w3 q C W b4 b9 gs v ρ wr) {ρ' : Roles} (hl : Later ρ ρ' wr) (hF : Fp (Part ρ [0]) wr w') : ShL w3 q C W b4 b9 gs v ρ' w' :=
  ⟨own_fpS h.own hF (fun b hb ⟨s, hs⟩ => by rw [(h.far b hb).1] at hs; simp at hs), fun b hb => ⟨(hl b (h.lt hb)).trans (h.far b hb).1, (h.far b hb).2⟩, h.ok⟩
theorem ShL.set (h : ShL w3 q C W b4 b9 gs v ρ wr) (hF : Fp (fun j => j = b9) wr w') : ShL w3 q C W b4 b9 gs v ρ w' :=
  ⟨own_fpS h.own hF (fun b hb e => (h.far b hb).2.2 e), h.far, h.ok⟩
theorem ShL.farFp (h : ShL w3 q C W b4 b9 gs v ρ wr) {S : Nat → Prop} (hF : Fp S wr w') (hS : ∀ j, S j → wr.heap.size ≤ j) : ShL w3 q C W b4 b9 gs v ρ w' :=
  ⟨own_fpS h.own hF (fun b hb e => by have h1 := hS b e; have h2 := h.lt hb; omega), h.far, h.ok⟩
theorem ShL.fence (h : ShL w3 q C W b4 b9 gs v ρ wr) : ShL w3 q C W b4 b9 gs v (fence ρ wr) wr :=
  ⟨h.own, fun b hb => ⟨(fence_later ρ wr b (h.lt hb)).trans (h.far b hb).1, (h.far b hb).2⟩, h.ok⟩
end
def DropsIn (L : Lt) (k : Nat) : Prop := ∀ u i, 0 ≤ L.d u i ∧ L.d u i ≤ k
def HRel2 (w3 : Int → Int → Int) (q : Int) (W : World) (b4 b9 : Nat) (l : List Sc) (g : Nat) (i v c : Value) (wr : World) : Prop :=
  ∃ (k : Nat) (L : Lt) (gv : Bool) (rows : List TRow) (ρ : Roles) (gs : List GstT) (C : Int), g = l.length - k ∧ i = .int .i64 k ∧ k ≤ l.length ∧ c = .int .i64 C ∧ 1 ≤ C ∧ C ≤ 64 ∧ gs.length ≤ k + 1 ∧ gs[gs.length - 1]? = some (L, gv, rows) ∧ DropsIn L k ∧
    ShF w3 q W b4 b9 (W.heap.size + 2) k L gv rows ρ wr ∧ ShL w3 q C W b4 b9 gs v ρ wr
section
variable {w3 : Int → Int → Int} {q C C' : Int} {W wr w10 : World} {b4 b9 f k n : Nat} {t d t' d' : Int → Int → Int} {b b' : Int → Int → Bool} {gv gv' : Bool} {rows rows' : List TRow} {ρ : Roles} {gs : List GstT} {v : Value} {L : Lt}
theorem sh_next (hS : ShF w3 q W b4 b9 f k ⟨t', d', b'⟩ gv' rows' ρ wr) (hL : ShL w3 q C W b4 b9 gs v ρ wr) (hlast : gs[gs.length - 1]? = some (L, gv, rows)) (hM : MidT (fun u => w3 u 3) w3 q L.t L.d gv rows C t' d' gv' rows' C') (hbb : ∀ u : Nat, u < 3 → RowB rows' b' u)
    {gg gcap : Nat} (hown : w10.ownsRow W.heap.size 67 36 (.slice (some ⟨gg, 0, none⟩) ((gs.map Prod.fst).length + 1) gcap) ((gs.map Prod.fst).length + 1) (flatLt (gs.map Prod.fst) ++ (ltC ⟨t', d', b'⟩).toList)) (hg : wr.grownBy w10 v.ownBlock) (hat : v.ownBlock = some gg ∨ wr.heap.size ≤ gg) :
    ShF w3 q W b4 b9 f k ⟨t', d', b'⟩ gv' rows' (fence ρ wr) w10 ∧ ShL w3 q C' W b4 b9 (gs ++ [((⟨t', d', b'⟩ : Lt), gv', rows')]) (.slice (some ⟨gg, 0, none⟩) (gs.length + 1) gcap) (fence ρ wr) w10 := by
  have hlk := hL.ok.snoc (t := L.t) (d := L.d) (b := L.b) hlast hM hbb
  have hgr : Fp (fun j => v.ownBlock = some j) wr w10 := (Fp.refl _ wr).grown hg (fun j _ hj => hj)
  refine ⟨hS.fence.farFp hgr (fun j hj => ?_), ⟨?_, fun j hj => ?_, hlk⟩⟩
  · have h1 := hL.far j hj
    exact ⟨(fence_later ρ wr j (hL.lt hj)).trans h1.1, h1.2.1, h1.2.2, own_block hL.own j hj⟩
  · have e : (gs ++ [((⟨t', d', b'⟩ : Lt), gv', rows')]).map Prod.fst = gs.map Prod.fst ++ [⟨t', d', b'⟩] := by simp
    rw [e, List.length_append, flatLt_snoc]
    rw [List.length_map] at hown ⊢
    exact hown
  · simp only [Value.ownBlock, Option.some.injEq] at hj
    subst hj
    rcases hat with h1 | h1
    · exact ⟨(hL.fence.far gg h1).1, (hL.far gg h1).2⟩
    · have h3 := fp_lt_of_heap hS.now
      have h4 := fp_lt_of_heap hS.wts
      exact ⟨by simp [Proofs.Ytohkchilogmneaa.fence, Nat.not_lt.2 h1], by omega, by omega⟩
theorem sh_len {l : List Sc} {g : GstT} (h1 : gs.length ≤ k + 1) (h2 : l.length ≤ 100) (h3 : k < l.length) : (gs ++ [g]).length ≤ 101 := by
  rw [List.length_append, List.length_singleton]
  omega
theorem sh_len2 {g : GstT} (h1 : gs.length ≤ k + 1) : (gs ++ [g]).length ≤ k + 1 + 1 := by
  rw [List.length_append, List.length_singleton]
  omega
theorem sh_last {g : GstT} : (gs ++ [g])[(gs ++ [g]).length - 1]? = some g := by simp
theorem sh_C (h : MidT (fun u => w3 u 3) w3 q t d gv rows C t' d' gv' rows' C') (hC : 1 ≤ C) : 1 ≤ C' ∧ C' ≤ 64 := ⟨by have := h.out.grow; omega, h.out.top⟩
theorem sh_top (hL : ShL w3 q C W b4 b9 gs v ρ wr) (hlast : gs[gs.length - 1]? = some (L, gv, rows)) (hlen : gs.length ≤ 101) (u : Nat) (hu : u < 3) (i : Nat) (_hi : i < 3) : (0 ≤ L.t u i ∧ L.t u i ≤ 6464) ∧ (0 ≤ L.t u 3 ∧ L.t u 3 ≤ 6464) := by
  have hm := List.mem_of_getElem? hlast
  have h1 := (hL.ok.out).top _ (List.mem_map_of_mem hm) u
  have h2 := (hL.ok.inn u hu).top _ (List.mem_map_of_mem hm) i
  rw [List.length_map] at h1 h2
  change 0 ≤ L.t u 3 ∧ L.t u 3 ≤ 64 * (gs.length : Int) at h1
  change 0 ≤ L.t u i ∧ L.t u i ≤ 64 * (gs.length : Int) at h2
  omega
theorem sh_i64 {x : Int} (h : 0 ≤ x ∧ x ≤ 1000000) : wrap64 x = x := wrap_i64 (by constructor <;> omega)
theorem sh_take (hL : ShL w3 q C W b4 b9 gs v ρ wr) (hlast : gs[gs.length - 1]? = some (L, gv, rows)) (hlen : gs.length ≤ 101) (hd : DropsIn L k) (hk : k ≤ 100) (u : Nat) (hu : u < 3) (i : Nat) (hi : i < 3) {c : Int} (hc : 0 ≤ c ∧ c ≤ 64) :
    wrap64 (L.t u i + c) = L.t u i + c ∧ wrap64 (L.t u 3 + c) = L.t u 3 + c ∧ wrap64 (L.d u i + 0) = L.d u i + 0 ∧ wrap64 (L.d u 3 + 0) = L.d u 3 + 0 := by
  have h1 := sh_top hL hlast hlen u hu i hi
  have h2 := hd u i
  have h3 := hd u 3
  exact ⟨sh_i64 (by omega), sh_i64 (by omega), sh_i64 (by omega), sh_i64 (by omega)⟩
theorem sh_drop (hL : ShL w3 q C W b4 b9 gs v ρ wr) (hlast : gs[gs.length - 1]? = some (L, gv, rows)) (hlen : gs.length ≤ 101) (hd : DropsIn L k) (hk : k ≤ 100) (u : Nat) (hu : u < 3) (i : Nat) (hi : i < 3) :
    wrap64 (L.t u i + 0) = L.t u i + 0 ∧ wrap64 (L.t u 3 + 0) = L.t u 3 + 0 ∧ wrap64 (L.d u i + 1) = L.d u i + 1 ∧ wrap64 (L.d u 3 + 1) = L.d u 3 + 1 := by
  have h1 := sh_top hL hlast hlen u hu i hi
  have h2 := hd u i
  have h3 := hd u 3
  exact ⟨sh_i64 (by omega), sh_i64 (by omega), sh_i64 (by omega), sh_i64 (by omega)⟩
theorem drops_more (h : DropsIn L k) : DropsIn L (k + 1) := fun u i => by have := h u i; omega
theorem drops_add (h : DropsIn L k) (u i : Int) {t : Int → Int → Int} {b : Int → Int → Bool} : DropsIn ⟨t, addL L.d u i 1, b⟩ (k + 1) := fun u' i' => by
  have := h u' i'
  simp only [addL]
  split <;> omega
theorem all_next (hL : ShL w3 q C W b4 b9 (gs ++ [(L, gv, rows)]) v ρ wr) (hlen : (gs ++ [(L, gv, rows)]).length ≤ 101) (hq1 : 1 ≤ q) (hq2 : q ≤ 64) (hw : ∀ u i, 1 ≤ w3 u i ∧ w3 u i ≤ 16) (hC : 1 ≤ C ∧ C ≤ 64) :
    Calls Try.prog 37 #[v, .agg (w3C w3), .int .i64 q, .int .i64 C] wr (TrueBelow wr) :=
  all16_any ((gs ++ [(L, gv, rows)]).map Prod.fst) v w3 q C wr (lts_own hL.own) (by simp) (by rw [List.length_map]; omega) hw (by omega) (by omega) (allT_of hL.ok (by omega) (by omega) (fun u i => (hw u i).1))
end
def HRel1 (w3 : Int → Int → Int) (w1 : World) (g : Nat) (i : Value) (wr : World) : Prop := ∃ T : Nat, g = 3 - T ∧ i = .int .i64 T ∧ T ≤ 3 ∧ wr = w1 ∧ ∀ u i : Nat, u < T → i < 4 → 1 ≤ w3 u i ∧ w3 u i ≤ 16
def HRel3 (w3 : Int → Int → Int) (w1 : World) (T : Nat) (g : Nat) (i : Value) (wr : World) : Prop := ∃ K : Nat, g = 4 - K ∧ i = .int .i64 K ∧ K ≤ 4 ∧ wr = w1 ∧ ∀ i : Nat, i < K → 1 ≤ w3 T i ∧ w3 T i ≤ 16
end Go.Proofs.Ytohkchilogmneaa
