/-
  pool.Pools: how pools lie in memory.
-/
import Derived.Test.YtdbjihkgafhakaaGreatDoorShareLen
namespace Go.Proofs.YtdbjihkgafhakaaGreatDoor
open Go.RowKit

/-- A class of a need. -/
structure PC where
  served : Int
  blk : Nat
  f : Nat
  gv : Bool
  rows : List TRow
/-- A need. -/
structure PN where
  name : ByteArray
  uses : Int
  blk : Nat
  cv : Value
  cls : List PC
/-- What pools are made of. -/
structure PX where
  pools : Int
  classes : Nat
  q : Int
def pcO (c : PC) : Obj := .cells #[.int .i64 c.served, .pointer (some ⟨c.f, 0, none⟩)] 76 (0, 0)
def pnO (n : PN) : Obj := .cells #[.string n.name, .int .i64 n.uses, n.cv] 71 (0, 0)
def ppO (x : PX) (next : Int) (v : Value) : Obj := .cells #[.int .i64 x.pools, .int .i64 x.classes, .int .i64 x.q, .int .i64 next, v] 67 (0, 0)
structure ClsAt (ρ : Roles) (w : World) (q : Int) (nb : Nat) (c : PC) : Prop where
  blk : w.heap[c.blk]? = some (pcO c)
  role : ρ c.blk = [0, 5, (nb : Int)]
  share : ShareAt [0, 6, (c.blk : Int)] ρ w c.f q c.gv c.rows
structure NeedAt (ρ : Roles) (w : World) (q : Int) (m : Nat) (n : PN) : Prop where
  blk : w.heap[n.blk]? = some (pnO n)
  role : ρ n.blk = [0, 4, (n.blk : Int)]
  arr : ArrIn 73 w n.cv (n.cls.map PC.blk)
  arole : ∀ k, n.cv.ownBlock = some k → ρ k = [0, 2, (n.blk : Int)]
  cls : ∀ (k : Nat) c, n.cls[k]? = some c → ClsAt ρ w q n.blk c
  len : n.cls.length = m
  once : (n.cls.map PC.blk).Nodup
structure PoolAt (ρ : Roles) (w : World) (P : Nat) (x : PX) (next : Int) (v : Value) (L : List PN) : Prop where
  head : w.heap[P]? = some (ppO x next v)
  role : ρ P = [0, 1]
  arr : ArrIn 72 w v (L.map PN.blk)
  arole : ∀ k, v.ownBlock = some k → ρ k = [0, 3]
  need : ∀ (i : Nat) n, L[i]? = some n → NeedAt ρ w x.q x.classes n
  blks : (L.map PN.blk).Nodup
theorem nodup_ix {α β : Type} {f : α → β} : ∀ {l : List α} {i j : Nat} {x y : α}, (l.map f).Nodup → l[i]? = some x → l[j]? = some y → f x = f y → i = j
  | [], _, _, _, _, _, h, _, _ => by simp at h
  | a :: l, 0, 0, _, _, _, _, _, _ => rfl
  | a :: l, 0, j + 1, x, y, hn, hi, hj, e => by
    simp at hi
    subst hi
    rw [List.map_cons, List.nodup_cons] at hn
    exact absurd (e ▸ List.mem_map_of_mem (List.mem_of_getElem? (by simpa using hj))) hn.1
  | a :: l, i + 1, 0, x, y, hn, hi, hj, e => by
    simp at hj
    subst hj
    rw [List.map_cons, List.nodup_cons] at hn
    exact absurd (e ▸ List.mem_map_of_mem (f := f) (List.mem_of_getElem? (l := l) (i := i) (by simpa using hi))) hn.1
  | a :: l, i + 1, j + 1, x, y, hn, hi, hj, e => by
    rw [List.map_cons, List.nodup_cons] at hn
    rw [nodup_ix (l := l) (i := i) (j := j) hn.2 (by simpa using hi) (by simpa using hj) e]
/-- A need's blocks. -/
def NPart (ρ : Roles) (n : PN) (k : Nat) : Prop := ρ k = [0, 4, (n.blk : Int)] ∨ ρ k = [0, 2, (n.blk : Int)] ∨ ρ k = [0, 5, (n.blk : Int)] ∨ ∃ c ∈ n.cls, Part ρ [0, 6, (c.blk : Int)] k
section
variable {ρ ρ' : Roles} {w w' : World} {P : Nat} {x : PX} {next q : Int} {v : Value} {L : List PN} {nb m : Nat} {c : PC} {n : PN}
theorem ClsAt.later (h : ClsAt ρ w q nb c) (hl : Later ρ ρ' w) : ClsAt ρ' w q nb c := ⟨h.blk, (hl _ (fp_lt_of_heap h.blk)).trans h.role, h.share.later hl⟩
theorem ClsAt.frame (h : ClsAt ρ w q nb c) {S : Nat → Prop} (hf : Fp S w w') (h1 : ¬ S c.blk) (h2 : ∀ k, k < w.heap.size → Part ρ [0, 6, (c.blk : Int)] k → ¬ S k) : ClsAt ρ w' q nb c :=
  ⟨hf.heap h.blk h1, h.role, h.share.frame hf h2⟩
theorem NeedAt.later (h : NeedAt ρ w q m n) (hl : Later ρ ρ' w) : NeedAt ρ' w q m n :=
  ⟨h.blk, (hl _ (fp_lt_of_heap h.blk)).trans h.role, h.arr, fun k hk => (hl k (h.arr.lt k hk)).trans (h.arole k hk), fun k c hc => (h.cls k c hc).later hl, h.len, h.once⟩
theorem NeedAt.frame (h : NeedAt ρ w q m n) {S : Nat → Prop} (hf : Fp S w w') (hS : ∀ k, k < w.heap.size → NPart ρ n k → ¬ S k) : NeedAt ρ w' q m n :=
  ⟨hf.heap h.blk (hS _ (fp_lt_of_heap h.blk) (.inl h.role)), h.role, h.arr.frame hf (fun k hk => hS k (h.arr.lt k hk) (.inr (.inl (h.arole k hk)))), h.arole,
    fun k c hc => (h.cls k c hc).frame hf (hS _ (fp_lt_of_heap (h.cls k c hc).blk) (.inr (.inr (.inl (h.cls k c hc).role)))) (fun j hj hp => hS j hj (.inr (.inr (.inr ⟨c, List.mem_of_getElem? hc, hp⟩)))), h.len, h.once⟩
theorem PoolAt.later (h : PoolAt ρ w P x next v L) (hl : Later ρ ρ' w) : PoolAt ρ' w P x next v L :=
  ⟨h.head, (hl _ (fp_lt_of_heap h.head)).trans h.role, h.arr, fun k hk => (hl k (h.arr.lt k hk)).trans (h.arole k hk), fun i n hn => (h.need i n hn).later hl, h.blks⟩
theorem PoolAt.frame (h : PoolAt ρ w P x next v L) {S : Nat → Prop} (hf : Fp S w w') (h1 : ∀ k, ρ k = [0, 1] → ¬ S k) (h3 : ∀ k, ρ k = [0, 3] → ¬ S k) (hN : ∀ (i : Nat) n, L[i]? = some n → ∀ k, k < w.heap.size → NPart ρ n k → ¬ S k) : PoolAt ρ w' P x next v L :=
  ⟨hf.heap h.head (h1 P h.role), h.role, h.arr.frame hf (fun k hk => h3 k (h.arole k hk)), h.arole, fun i n hn => (h.need i n hn).frame hf (hN i n hn), h.blks⟩
theorem PoolAt.below (h : PoolAt ρ w P x next v L) (hb : Below w.heap.size w w') : PoolAt ρ w' P x next v L := h.frame (S := fun _ => False) (Fp.of_below hb) (fun _ _ h => h) (fun _ _ h => h) (fun _ _ _ _ _ _ h => h)
theorem part_pre {s : List Int} {k : Nat} {a b : Int} (h1 : Part ρ [0, 6, a] k) (h2 : ρ k = [0, b] ++ s) (hb : b ≠ 6) : False := by
  obtain ⟨t, ht⟩ := h1
  rw [h2] at ht
  simp at ht
  exact hb ht.1
theorem part_same {k a b : Nat} (h1 : Part ρ [0, 6, a] k) (h2 : Part ρ [0, 6, b] k) : a = b := by
  obtain ⟨t, ht⟩ := h1
  obtain ⟨u, hu⟩ := h2
  rw [ht] at hu
  simp at hu
  omega
theorem npart_other {n' : PN} (h : NeedAt ρ w q m n) (h' : NeedAt ρ w q m n') (hne : n.blk ≠ n'.blk) {k : Nat} (h1 : NPart ρ n k) (h2 : NPart ρ n' k) : False := by
  have key : ∀ {a b : Int} {p : PN} {c : PC}, b ≠ 6 → ρ k = [0, b, a] → c ∈ p.cls → Part ρ [0, 6, (c.blk : Int)] k → False := fun {a b p c} hb e _ hp => part_pre (s := [a]) hp e hb
  rcases h1 with e1 | e1 | e1 | ⟨c, hc, e1⟩ <;> rcases h2 with e2 | e2 | e2 | ⟨d, hd, e2⟩
  all_goals first
    | (rw [e1] at e2; simp at e2 <;> omega)
    | exact key (p := n') (by decide) e1 hd e2
    | exact key (p := n) (by decide) e2 hc e1
    | skip
  have e := part_same e1 e2
  obtain ⟨i, hi⟩ := List.getElem?_of_mem hc
  obtain ⟨j, hj⟩ := List.getElem?_of_mem hd
  have r1 := (h.cls i c hi).role
  have r2 := (h'.cls j d hj).role
  rw [e, r2] at r1
  simp at r1
  omega
/-! ### Changes -/
theorem PoolAt.head_set (h : PoolAt ρ w P x next v L) {next' : Int} (hF : Fp (fun j => j = P) w w') (hh : w'.heap[P]? = some (ppO x next' v)) : PoolAt ρ w' P x next' v L := by
  have hne : ∀ {k r}, ρ k = r → r ≠ [0, 1] → k ≠ P := fun {k r} e hr ek => hr (by rw [← e, ek]; exact h.role)
  refine ⟨hh, h.role, h.arr.frame hF (fun k hk => hne (h.arole k hk) (by decide)), h.arole, fun i n hn => (h.need i n hn).frame hF (fun k _ hp => ?_), h.blks⟩
  rcases hp with e | e | e | ⟨c, _, t, e⟩
  all_goals exact hne e (by simp)
/-- A need in its place. -/
theorem PoolAt.need_set (h : PoolAt ρ w P x next v L) {i : Nat} {n n' : PN} (hn : L[i]? = some n) (hb : n'.blk = n.blk) {S : Nat → Prop} (hF : Fp S w w') (hS : ∀ k, k < w.heap.size → S k → NPart ρ n k) (hN : NeedAt ρ w' x.q x.classes n') : PoolAt ρ w' P x next v (L.set i n') := by
  have hmap : (L.set i n').map PN.blk = L.map PN.blk := by
    rw [List.map_set, hb]
    apply List.ext_getElem?
    intro j
    by_cases e : j = i
    · subst e
      rw [List.getElem?_map, hn, List.getElem?_set_self (by rw [List.length_map]; exact (List.getElem?_eq_some_iff.1 hn).1)]
      rfl
    · rw [List.getElem?_set_ne (fun e' => e e'.symm)]
  have hno : ∀ {k : Nat} {b : Int}, k < w.heap.size → ρ k = [0, b] → ¬ S k := fun {k b} hk e hs => by
    rcases hS k hk hs with e1 | e1 | e1 | ⟨c, _, t, e1⟩ <;> · rw [e] at e1; simp at e1
  refine ⟨hF.heap h.head (hno (fp_lt_of_heap h.head) h.role), h.role, by rw [hmap]; exact h.arr.frame hF (fun k hk => hno (h.arr.lt k hk) (h.arole k hk)), h.arole, fun j m hm => ?_, by rw [hmap]; exact h.blks⟩
  by_cases e : i = j
  · subst e
    rw [List.getElem?_set_self (List.getElem?_eq_some_iff.1 hn).1] at hm
    cases hm
    exact hN
  · rw [List.getElem?_set_ne e] at hm
    refine (h.need j m hm).frame hF (fun k hk hp hs => ?_)
    exact npart_other (h.need j m hm) (h.need i n hn) (fun eb => e (nodup_ix h.blks hn hm eb.symm)) hp (hS k hk hs)
/-- A class in its place: its share turned, or its number set. -/
theorem NeedAt.cls_set (h : NeedAt ρ w q m n) {k : Nat} {c c' : PC} (hc : n.cls[k]? = some c) (hb : c'.blk = c.blk) {S : Nat → Prop} (hF : Fp S w w') (hl : Later ρ ρ' w) (hS : ∀ j, j < w.heap.size → S j → j = c.blk ∨ Part ρ [0, 6, (c.blk : Int)] j) (hC : ClsAt ρ' w' q n.blk c') : NeedAt ρ' w' q m { n with cls := n.cls.set k c' } := by
  have hmap : (n.cls.set k c').map PC.blk = n.cls.map PC.blk := by
    rw [List.map_set, hb]
    apply List.ext_getElem?
    intro j
    by_cases e : j = k
    · subst e
      rw [List.getElem?_map, hc, List.getElem?_set_self (by rw [List.length_map]; exact (List.getElem?_eq_some_iff.1 hc).1)]
      rfl
    · rw [List.getElem?_set_ne (fun e' => e e'.symm)]
  have hcr := (h.cls k c hc).role
  have hno : ∀ {j : Nat} {b : Int}, j < w.heap.size → ρ j = [0, b, n.blk] → b ≠ 5 → b ≠ 6 → ¬ S j := fun {j b} hj e h5 h6 hs => by
    rcases hS j hj hs with e1 | ⟨t, e1⟩
    · rw [e1, hcr] at e
      simp at e
      exact h5 e.symm
    · rw [e] at e1
      simp at e1
      exact h6 e1.1
  refine ⟨hF.heap h.blk (hno (fp_lt_of_heap h.blk) h.role (by decide) (by decide)), (hl _ (fp_lt_of_heap h.blk)).trans h.role, by rw [hmap]; exact h.arr.frame hF (fun j hj => hno (h.arr.lt j hj) (h.arole j hj) (by decide) (by decide)), fun j hj => (hl j (h.arr.lt j hj)).trans (h.arole j hj), fun j d hd => ?_, by rw [List.length_set]; exact h.len, by rw [hmap]; exact h.once⟩
  by_cases e : k = j
  · subst e
    rw [List.getElem?_set_self (List.getElem?_eq_some_iff.1 hc).1] at hd
    cases hd
    exact hC
  · rw [List.getElem?_set_ne e] at hd
    have hcd : c.blk ≠ d.blk := fun eb => e (nodup_ix h.once hc hd eb)
    refine ((h.cls j d hd).later hl).frame hF (fun hs => ?_) (fun t ht hp hs => ?_)
    · rcases hS _ (fp_lt_of_heap (h.cls j d hd).blk) hs with e1 | ⟨t, e1⟩
      · exact hcd e1.symm
      · rw [(h.cls j d hd).role] at e1
        simp at e1
    · have hp' : Part ρ [0, 6, (d.blk : Int)] t := by
        obtain ⟨u, hu⟩ := hp
        exact ⟨u, by rw [← hl t ht]; exact hu⟩
      rcases hS t ht hs with e1 | e1
      · rw [e1] at hp'
        exact part_pre (s := [(n.blk : Int)]) hp' hcr (by decide)
      · exact hcd (part_same e1 hp')
theorem npart_of {k : Nat} (h : NeedAt ρ w q m n) {j : Nat} (hc : n.cls[k]? = some c) (hj : j = c.blk ∨ Part ρ [0, 6, (c.blk : Int)] j) : NPart ρ n j := by
  rcases hj with e | e
  · exact .inr (.inr (.inl (by rw [e]; exact (h.cls k c hc).role)))
  · exact .inr (.inr (.inr ⟨c, List.mem_of_getElem? hc, e⟩))
/-- A class of a need, its share turned. -/
theorem PoolAt.turn (h : PoolAt ρ w P x next v L) {i k : Nat} {n : PN} {c : PC} (hn : L[i]? = some n) (hc : n.cls[k]? = some c) {gv' : Bool} {rows' : List TRow} (hl : Later ρ ρ' w) (hR : ShareAt [0, 6, (c.blk : Int)] ρ' w' c.f x.q gv' rows') (hF : Fp (Part ρ [0, 6, (c.blk : Int)]) w w') :
    PoolAt ρ' w' P x next v (L.set i { n with cls := n.cls.set k { c with gv := gv', rows := rows' } }) := by
  have hN := h.need i n hn
  have hC := hN.cls k c hc
  have hcF : w'.heap[c.blk]? = some (pcO c) := hF.heap hC.blk (fun ⟨t, e⟩ => by rw [hC.role] at e; simp at e)
  have hN' := hN.cls_set hc (c' := { c with gv := gv', rows := rows' }) rfl hF hl (fun j _ hj => .inr hj) ⟨hcF, (hl _ (fp_lt_of_heap hC.blk)).trans hC.role, hR⟩
  refine (h.later hl).need_set hn rfl hF (fun j hj hs => ?_) hN'
  refine npart_of (hN.later hl) hc (.inr ?_)
  obtain ⟨t, e⟩ := hs
  exact ⟨t, by rw [hl j hj]; exact e⟩
/-- A class's number set. -/
theorem PoolAt.served (h : PoolAt ρ w P x next v L) {i k : Nat} {n : PN} {c : PC} (hn : L[i]? = some n) (hc : n.cls[k]? = some c) {t : Int} (hF : Fp (fun j => j = c.blk) w w') (hh : w'.heap[c.blk]? = some (pcO { c with served := t })) :
    PoolAt ρ w' P x next v (L.set i { n with cls := n.cls.set k { c with served := t } }) := by
  have hN := h.need i n hn
  have hC := hN.cls k c hc
  have hN' := hN.cls_set hc (c' := { c with served := t }) rfl hF (Later.refl _ _) (fun j _ hj => .inl hj) ⟨hh, hC.role, hC.share.frame hF (fun j _ hp e => by rw [e] at hp; exact part_pre (s := [(n.blk : Int)]) hp hC.role (by decide))⟩
  exact h.need_set hn rfl hF (fun j hj hs => npart_of hN hc (.inl hs)) hN'
/-- How many operations have a need, set. -/
theorem PoolAt.used (h : PoolAt ρ w P x next v L) {i : Nat} {n : PN} (hn : L[i]? = some n) {t : Int} (hF : Fp (fun j => j = n.blk) w w') (hh : w'.heap[n.blk]? = some (pnO { n with uses := t })) : PoolAt ρ w' P x next v (L.set i { n with uses := t }) := by
  have hN := h.need i n hn
  refine h.need_set hn rfl hF (fun j _ hj => .inl (by rw [hj]; exact hN.role)) ⟨hh, hN.role, hN.arr.frame hF (fun k hk e => by have h1 := hN.arole k hk; rw [e, hN.role] at h1; simp at h1), hN.arole, fun k c hc => ?_, hN.len, hN.once⟩
  have hC := hN.cls k c hc
  refine hC.frame hF (fun e => ?_) (fun j _ hp e => ?_)
  · have h1 := hC.role
    rw [e, hN.role] at h1
    simp at h1
  · rw [e] at hp
    exact part_pre (s := [(n.blk : Int)]) hp hN.role (by decide)
/-- A need gone. -/
theorem PoolAt.gone (h : PoolAt ρ w P x next v L) {i : Nat} {v' : Value} {w1 : World} (hF : Fp (fun j => v.ownBlock = some j) w w1) (hA : ArrIn 72 w1 v' ((L.map PN.blk).eraseIdx i)) (hv : v'.ownBlock = v.ownBlock) (hF2 : Fp (fun j => j = P) w1 w') (hh : w'.heap[P]? = some (ppO x next v')) : PoolAt ρ w' P x next v' (L.eraseIdx i) := by
  have hne : ∀ {k r}, ρ k = r → r ≠ [0, 1] → k ≠ P := fun {k r} e hr ek => hr (by rw [← e, ek]; exact h.role)
  have hnv : ∀ {k r}, ρ k = r → r ≠ [0, 3] → ¬ v.ownBlock = some k := fun {k r} e hr ek => hr (by rw [← e]; exact h.arole k ek)
  have hmap : (L.eraseIdx i).map PN.blk = (L.map PN.blk).eraseIdx i := eraseIdx_map' PN.blk L i
  refine ⟨hh, h.role, by rw [hmap]; exact hA.frame hF2 (fun k hk => hne (h.arole k (hv ▸ hk)) (by decide)), fun k hk => h.arole k (hv ▸ hk), fun j n hn => ?_, by rw [hmap]; exact h.blks.sublist (List.eraseIdx_sublist _ _)⟩
  obtain ⟨j', hj'⟩ := List.getElem?_of_mem (List.mem_of_mem_eraseIdx (List.mem_of_getElem? hn))
  refine ((h.need j' n hj').frame hF (fun k _ hp => ?_)).frame hF2 (fun k _ hp => ?_)
  · rcases hp with e | e | e | ⟨c, _, t, e⟩
    all_goals exact hnv e (by simp)
  · rcases hp with e | e | e | ⟨c, _, t, e⟩
    all_goals exact hne e (by simp)
/-- A new need. -/
theorem PoolAt.join (h : PoolAt ρ w P x next v L) {n : PN} {v' : Value} {w1 : World} {next' : Int} (hN : NeedAt ρ w1 x.q x.classes n) (hnew : ∀ m ∈ L, m.blk ≠ n.blk) (hF : Fp (fun j => v.ownBlock = some j) w w1) (hA : ArrIn 72 w1 v' ((L ++ [n]).map PN.blk)) (hv : ∀ k, v'.ownBlock = some k → ρ k = [0, 3]) (hF2 : Fp (fun j => j = P) w1 w') (hh : w'.heap[P]? = some (ppO x next' v')) : PoolAt ρ w' P x next' v' (L ++ [n]) := by
  have hne : ∀ {k r}, ρ k = r → r ≠ [0, 1] → k ≠ P := fun {k r} e hr ek => hr (by rw [← e, ek]; exact h.role)
  have hnv : ∀ {k r}, ρ k = r → r ≠ [0, 3] → ¬ v.ownBlock = some k := fun {k r} e hr ek => hr (by rw [← e]; exact h.arole k ek)
  have hno : ∀ {m : PN} k, NPart ρ m k → k ≠ P := fun {m} k hp => by
    rcases hp with e | e | e | ⟨c, _, t, e⟩
    all_goals exact hne e (by simp)
  refine ⟨hh, h.role, hA.frame hF2 (fun k hk => hne (hv k hk) (by decide)), hv, fun j m hm => ?_, ?_⟩
  · rcases List.mem_append.1 (List.mem_of_getElem? hm) with hm | hm
    · obtain ⟨j', hj'⟩ := List.getElem?_of_mem hm
      refine ((h.need j' m hj').frame hF (fun k _ hp => ?_)).frame hF2 (fun k _ hp => hno k hp)
      rcases hp with e | e | e | ⟨c, _, t, e⟩
      all_goals exact hnv e (by simp)
    · rw [List.mem_singleton] at hm
      subst hm
      exact hN.frame hF2 (fun k _ hp => hno k hp)
  · rw [List.map_append, List.nodup_append]
    refine ⟨h.blks, by simp, fun a ha b hb e => ?_⟩
    obtain ⟨m, hm, rfl⟩ := List.mem_map.1 ha
    simp at hb
    exact hnew m hm (e.trans hb)
end
end Go.Proofs.YtdbjihkgafhakaaGreatDoor
