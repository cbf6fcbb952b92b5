/-
  law17: what a Take leaves of the needs, wherever they lie; the document's needs, told by the program's.
  law17: Waits, by both pools.
  law17: a call, by both pools, in whatever order: what is left.
  law17: Same: the walk.
  law17: does: Enter, Leave, Push, Drop by both pools: the walks.
  Two entries that are the same: what '==' tells.
  law17: does: Take by both pools; a call by both, in one law: the walks.
-/
import Derived.Test.YtdbjihkgafhakaaGreatDoorSk24
import Derived.Test.YtdbjihkgafhakaaGreatDoorSk23
import Derived.Deep.RegionHeld3
import Derived.Lib.QuietBelow
import Derived.BigQuiet
import Derived.Test.YtdbjihkgafhakaaGreatDoorSk09
namespace Go.Proofs.YtdbjihkgafhakaaGreatDoor
open Go.RowKit
theorem took_abs (L : List PN) (y : PB) (next : Int) (row : TRow) (rest : List TRow) : (L.set y.i (tookN y next row rest)).map PN.abs = (L.map PN.abs).set y.i { y.n.abs with served := (y.n.cls.map PC.served).set y.k next, sh := (y.n.cls.map (fun c => (c.gv, c.rows))).set y.k ((tookT row rest).1, (tookT row rest).2) } :=
  cls_abs L y.i y.k y.n { y.c with served := next, gv := (tookT row rest).1, rows := (tookT row rest).2 }
theorem abs_back {L : List PN} {l : List QP} (hA : L.map PN.abs = l.map QP.abs) {p : QP} (hp : p ∈ l) : ∃ (i : Nat) (n : PN), L[i]? = some n ∧ n.abs = p.abs := by
  obtain ⟨i, hi⟩ := List.getElem?_of_mem hp
  have h := congrArg (fun z => z[i]?) hA
  simp only [List.getElem?_map, hi, Option.map_some] at h
  cases hn : L[i]? with
  | none => rw [hn] at h; cases h
  | some n =>
    rw [hn] at h
    exact ⟨i, n, hn, Option.some.inj h⟩
theorem cls_back {n : PN} {p : QP} (h : n.abs = p.abs) {y : QS} (hy : y ∈ p.sh) : ∃ (k : Nat) (c : PC), n.cls[k]? = some c ∧ c.gv = y.gv ∧ c.rows = y.l.map Prod.fst := by
  obtain ⟨k, hk⟩ := List.getElem?_of_mem hy
  have h2 := congrArg (fun z => z.sh[k]?) h
  simp only [PN.abs, QP.abs, List.getElem?_map, hk, Option.map_some] at h2
  cases hc : n.cls[k]? with
  | none => rw [hc] at h2; cases h2
  | some c =>
    rw [hc] at h2
    have h3 := Option.some.inj h2
    simp only [QS.abs, Prod.mk.injEq] at h3
    exact ⟨k, c, hc, h3.1, h3.2⟩
theorem uses_both (s : ByteArray) {x : PX} {next : Int} {L : List PN} : ∃ u : Int, (∀ (P : Nat) (v : Value) (ρ : Roles) (w : World), PoolAt ρ w P x next v L → PoolOk x L → Calls Tryz.prog 18 #[.pointer (some ⟨P, 0, none⟩), .string s] w (fun e w' => e = .returned (.int .i64 u) ∧ Below w.heap.size w w')) ∧
    ∀ (dv : Value) (l : List QP) (nx : Int) (w2 : World), SlAt w2 dv l.length (l.flatMap encQP) → l.length ≤ 1000000 → L.map PN.abs = l.map QP.abs → Calls Tryz.prog 19 #[.agg (pC x nx dv), .string s] w2 (fun e w' => e = .returned (.int .i64 u) ∧ Below w2.heap.size w2 w') := by
  rcases placeP_cases s L with ⟨hp, _⟩ | ⟨i, a, hp, ha, _⟩
  · exact ⟨0, fun P v ρ w hS hO => puses_none s w hS hO hp, fun dv l nx w2 h hf hA => r17Uses_none s x nx dv l w2 h hf (by rw [← place_abs hA, hp])⟩
  · refine ⟨a.uses, fun P v ρ w hS hO => puses_some s i a w hS hO hp ha, fun dv l nx w2 h hf hA => ?_⟩
    obtain ⟨p, hp', hap⟩ := abs_at hA ha
    rw [show a.uses = p.uses from congrArg AR.uses hap]
    exact r17Uses_some s i p x nx dv l w2 h hf (by rw [← place_abs hA, hp]) hp'
theorem few_dv17 {w : World} {v : Value} {l : List DV} (h : DRowsAt w v l) (hf : FewT (l.map Prod.fst)) : FewD l := by
  refine ⟨by have := hf.1; rwa [List.length_map] at this, fun p hp => ?_⟩
  have hi := (h.inv p hp).same
  have hx := hf.2 p.1 (List.mem_map_of_mem hp)
  rw [← hi, List.length_map] at hx
  exact ⟨hx.1, fun r hr => hx.2 r.1 (List.mem_map_of_mem hr)⟩
theorem ring_once17 {pre : List Int} {ρ : Roles} {w : World} {f : Nat} {q : Int} {gv : Bool} {rows : List FRow} (h : RingAt pre ρ w f q gv rows) : ∀ r ∈ rows, (r.its.map It.id).Nodup := by
  obtain ⟨sp, v, ns, qb, its, h, rfl⟩ := h
  intro r hr
  obtain ⟨n, hn, rfl⟩ := List.mem_map.1 hr
  exact (h.que n hn).good.once
theorem share_once17 {pre : List Int} {ρ : Roles} {w : World} {f : Nat} {q : Int} {gv : Bool} {rows : List TRow} (h : ShareAt pre ρ w f q gv rows) : ∀ x ∈ rows, ∀ r ∈ x.rows, (r.its.map It.id).Nodup := by
  obtain ⟨sp, v, ns, fb, a, h, rfl⟩ := h
  intro x hx
  obtain ⟨n, hn, rfl⟩ := List.mem_map.1 hx
  exact ring_once17 (h.pre'.ring n hn)
def takeU (y : PB) (row : TRow) : Value := .tuple #[entV { entOf row with need := y.n.name, cls := y.k }, .bool true]
def TakeTwin (pl : ByteArray) (most : Int) (x : PX) (k : Nat) (L : List PN) (next : Int) (P : Nat) (ρ : Roles) (w : World) : Prop :=
  ∃ R : Value → Int → List AR → Prop, (∀ u u' n n' A A', R u n A → R u' n' A' → u = u' ∧ n = n' ∧ A = A') ∧ (∀ u n A, R u n A → ∃ (E : Ent) (ok : Bool), u = .tuple #[entV E, .bool ok]) ∧
    Calls Tryz.prog 14 #[.pointer (some ⟨P, 0, none⟩), .string pl, .int .i64 most] w (fun e w' => ∃ u next' A', R u next' A' ∧ e = .returned u ∧ ∃ v' L', TurnPost ρ w P x next' v' L' w' ∧ Lw x next' L' (k + 1) ∧ L'.map PN.abs = A') ∧
    ∀ (G : Nat → Prop) (b : Nat) (dv : Value) (l : List QP) (w2 : World), RefP G w2 b x next dv l → L.map PN.abs = l.map QP.abs → Calls Tryz.prog 44 #[.pointer (some ⟨b, 0, none⟩), .string pl, .int .i64 most] w2 (fun e w' => ∃ u next' A', R u next' A' ∧ QDocPost G b x next' A' u w2 e w')
theorem take_both (pl : ByteArray) (most : Int) {x : PX} {next : Int} {L : List PN} {k P : Nat} {v : Value} {ρ : Roles} (w : World) (hpl : pl.size ≤ 200) (hr : Ready w) (hS : PoolAt ρ w P x next v L) (h : Lw x next L k) (hk : k ≤ 200) : TakeTwin pl most x k L next P ρ w := by
  have hO := h.ok hk
  have hnx := h.nx
  have hpx := h.px
  have hdoc : ∀ {G : Nat → Prop} {b : Nat} {dv : Value} {l : List QP} {w2 : World}, RefP G w2 b x next dv l → L.map PN.abs = l.map QP.abs → ∀ o, bestTo most pl L L.length = o → Calls Tryz.prog 44 #[.pointer (some ⟨b, 0, none⟩), .string pl, .int .i64 most] w2 (TakeDPost G b x next l o w2) := fun {G b dv l w2} hR hA o ho => by
    refine r17Take_any o pl most b x next dv l L w2 hR hA ho hO (by omega) (by omega) (fun p hp => ?_) (by omega) hpx.2.2 (fun p hp y hy => ?_) (fun p hp y hy => ?_)
    · obtain ⟨i, n, hn, hap⟩ := abs_back hA hp
      have h1 := h.inv.uses n (List.mem_of_getElem? hn)
      have h2 : n.uses = p.uses := congrArg AR.uses hap
      omega
    · obtain ⟨i, n, hn, hap⟩ := abs_back hA hp
      obtain ⟨j, c, hc, _, hrows⟩ := cls_back hap hy
      refine few_dv17 ((hR.inv p hp).inv y hy) ?_
      rw [← hrows]
      exact few_tot ((hS.need i n hn).cls j c hc).share.fullT (by have := h.tot n (List.mem_of_getElem? hn) c (List.mem_of_getElem? hc); omega)
    · obtain ⟨i, n, hn, hap⟩ := abs_back hA hp
      obtain ⟨j, c, hc, hgv, hrows⟩ := cls_back hap hy
      have hs := ((hS.need i n hn).cls j c hc).share
      rw [← hrows, ← hgv]
      exact ⟨hs.rowsOk, share_once17 hs⟩
  rcases hb : bestTo most pl L L.length with _ | y
  · refine ⟨fun u n A => u = .tuple #[entV ent0, .bool false] ∧ n = next ∧ A = L.map PN.abs, fun u u' n n' A A' ⟨h1, h2, h3⟩ ⟨g1, g2, g3⟩ => ⟨h1.trans g1.symm, h2.trans g2.symm, h3.trans g3.symm⟩, (fun u n A ⟨h1, _⟩ => ⟨ent0, false, h1⟩), (ptake_none w hr hS hO (by omega) hb).mono ?_, fun G b dv l w2 hR hA => (hdoc hR hA none hb).mono ?_⟩
    · rintro e w' ⟨rfl, hb'⟩
      exact ⟨_, _, _, ⟨rfl, rfl, rfl⟩, rfl, _, _, turn_same hS hb', h.more, rfl⟩
    · rintro e w' ⟨rfl, hb'⟩
      exact ⟨_, _, _, ⟨rfl, rfl, rfl⟩, by rw [hA]; exact r17_same hR hb' _⟩
  · refine ⟨fun u n A => ∃ row rest, PicksT x.q y.c.gv y.c.rows (row :: rest) ∧ u = takeU y row ∧ n = next + 1 ∧ A = (L.map PN.abs).set y.i { y.n.abs with served := (y.n.cls.map PC.served).set y.k next, sh := (y.n.cls.map (fun c => (c.gv, c.rows))).set y.k ((tookT row rest).1, (tookT row rest).2) }, ?_, (fun u n A ⟨row, rest, _, h1, _⟩ => ⟨_, true, h1⟩), (ptake_some y w hr hS hO (by omega) hb ⟨hnx.1, by omega⟩).mono ?_, fun G b dv l w2 hR hA => (hdoc hR hA (some y) hb).mono ?_⟩
    · rintro u u' n n' A A' ⟨row, rest, h1, rfl, rfl, rfl⟩ ⟨row', rest', g1, rfl, rfl, rfl⟩
      have e := h1.once g1
      cases e
      exact ⟨rfl, rfl, rfl⟩
    · rintro e w' ⟨row, rest, ρ', rfl, hpk, hl, hN, hA, hF⟩
      obtain ⟨hn, hc⟩ := bestTo_in L.length y hb
      have ht := h.tot y.n (List.mem_of_getElem? hn) y.c (List.mem_of_getElem? hc)
      have h1 := totT_took row rest
      have h2 := picksT_tot hpk
      refine ⟨_, _, _, ⟨row, rest, hpk, rfl, rfl, rfl⟩, rfl, _, _, ⟨ρ', hl, hN, hA, hF⟩, h.cls hn hc ?_ (pinv_take h.inv hn hc hnx.1) (by omega), took_abs L y next row rest⟩
      show totT (tookT row rest).2 ≤ k + 1
      omega
    · rintro e w' ⟨row, rest, rfl, hpk, hF, v', l', hR', hm⟩
      exact ⟨_, _, _, ⟨row, rest, hpk, rfl, rfl, rfl⟩, rfl, hF, v', l', hR', by rw [hm, hA]⟩
end Go.Proofs.YtdbjihkgafhakaaGreatDoor
namespace Go.Proofs.YtdbjihkgafhakaaGreatDoor
open Go.RowKit
theorem waits_both (s : ByteArray) (q : Int) {x : PX} {next : Int} {L : List PN} {k P : Nat} {v : Value} {ρ : Roles} (w : World) (hS : PoolAt ρ w P x next v L) (h : Lw x next L k) (hk : k ≤ 200) : ∃ u : Int,
    Calls Tryz.prog 13 #[.pointer (some ⟨P, 0, none⟩), .string s, .int .i64 q] w (fun e w' => e = .returned (.int .i64 u) ∧ Below w.heap.size w w') ∧
    ∀ (G : Nat → Prop) (b : Nat) (dv : Value) (l : List QP) (nx : Int) (w2 : World), RefP G w2 b x nx dv l → L.map PN.abs = l.map QP.abs → Calls Tryz.prog 20 #[.agg (pC x nx dv), .string s, .int .i64 q] w2 (fun e w' => e = .returned (.int .i64 u) ∧ Below w2.heap.size w2 w') := by
  have hO := h.ok hk
  by_cases hno : placeP s L = -1 ∨ q < 0 ∨ (x.classes : Int) ≤ q
  · exact ⟨0, pwaits_none s q w hS hO hno, fun G b dv l nx w2 hR hA => r17Waits_none s q x nx dv l w2 hR.rows (by have := hR.few; omega) (by rw [← place_abs hA]; exact hno)⟩
  · rcases placeP_cases s L with ⟨hp, _⟩ | ⟨i, a, hp, ha, _⟩
    · exact absurd (.inl hp) hno
    · obtain ⟨j, rfl⟩ : ∃ j : Nat, q = j := ⟨q.toNat, by omega⟩
      have hal := h.inv.len a (List.mem_of_getElem? ha)
      obtain ⟨c, hcc⟩ : ∃ c, a.cls[j]? = some c := ⟨_, List.getElem?_eq_getElem (by omega)⟩
      have ht := h.tot a (List.mem_of_getElem? ha) c (List.mem_of_getElem? hcc)
      refine ⟨totT c.rows, pwaits_some s i j a c w hS hO hp ha hcc, fun G b dv l nx w2 hR hA => ?_⟩
      obtain ⟨p, hp', hap⟩ := abs_at hA ha
      obtain ⟨_, y, hy, _, hrows⟩ := cls_at hap hcc
      have hQ := hR.inv p (List.mem_of_getElem? hp')
      have hfu := ((hS.need i a ha).cls j c hcc).share.fullT
      rw [hrows] at ht ⊢
      exact r17Waits_some s i j p y x nx dv l w2 hR.rows (by have := hR.few; omega) (by rw [← place_abs hA, hp]) hp' hQ hy (by omega) (few_dv17 (hQ.inv y (List.mem_of_getElem? hy)) (by rw [← hrows]; exact few_tot hfu (by rw [hrows]; omega))) (by omega)
end Go.Proofs.YtdbjihkgafhakaaGreatDoor
namespace Go.Proofs.YtdbjihkgafhakaaGreatDoor
open Go.RowKit
def KeptP (ρ ρ' : Roles) (b : Nat) (w w' : World) : Prop := ∀ j o, w.heap[j]? = some o → FreeP ρ b j → w'.heap[j]? = some o ∧ FreeP ρ' b j
section
variable {W w0 wr w' w'' : World} {P b k : Nat} {x : PX} {next nd next' : Int} {v v' dv dv' : Value} {L L' : List PN} {ρ ρ' : Roles} {l l' : List QP} {A' : List AR} {u : Value} {e : Ending}
theorem KeptP.below {w : World} (hb : Below w.heap.size w w0) (h : KeptP ρ ρ' b w0 w') : KeptP ρ ρ' b w w' := fun j o hj hf => h j o ((hb.block j (fp_lt_of_heap hj)).trans hj) hf
theorem doc_keptP (hF : Fp (fun j => j = b) wr w') : KeptP ρ ρ b wr w' := fun _ _ hj hf => ⟨hF.heap hj hf.2, hf⟩
theorem both_prog (hst : PlState W P x next v L ρ wr) (hd : RefP (FreeP ρ b) wr b x nd dv l) (hnb : ρ b = []) (hT : TurnPost ρ wr P x next' v' L' w') : ∃ ρ', PlState W P x next' v' L' ρ' w' ∧ RefP (FreeP ρ' b) w' b x nd dv l ∧ ρ' b = [] ∧ KeptP ρ ρ' b wr w' := by
  obtain ⟨ρ1, hl, _, hp', hF⟩ := hT
  have hbl := fp_lt_of_heap hd.head
  have hst2 := hst.step hl hp' hF
  have hsz := hF.size
  have hlat : Later ρ (fence ρ1 w') wr := fun j hj => (fence_later ρ1 w' j (Nat.lt_of_lt_of_le hj hsz)).trans (hl j hj)
  refine ⟨fence ρ1 w', hst2.fence, hd.move hF (fun ⟨t, e⟩ => by rw [hnb] at e; simp at e) (fun j hj hg => ⟨⟨(hlat j hj).trans hg.1, hg.2⟩, fun ⟨t, e⟩ => by rw [hg.1] at e; simp at e⟩) (fun e => e.2 rfl) (fun j hj => ⟨fence_far hj, by omega⟩), (hlat b hbl).trans hnb, fun j o hj hf => ⟨?_, (hlat j (fp_lt_of_heap hj)).trans hf.1, hf.2⟩⟩
  exact hF.heap hj (fun ⟨t, e⟩ => by rw [hf.1] at e; simp at e)
structure HalfP (W : World) (P b : Nat) (x : PX) (k : Nat) (next nd : Int) (v : Value) (L : List PN) (ρ : Roles) (dv : Value) (l : List QP) (A : List AR) (wr : World) : Prop where
  st : PlState W P x next v L ρ wr
  doc : RefP (FreeP ρ b) wr b x nd dv l
  nb : ρ b = []
  wb : W.heap.size ≤ b
  abs : L.map PN.abs = A
  lw : Lw x next L k
theorem BothP.first_prog (h : BothP W P b x k next v L ρ dv l wr) (hT : ∃ v' L', TurnPost ρ wr P x next' v' L' w' ∧ Lw x next' L' (k + 1) ∧ L'.map PN.abs = A') : ∃ v' L' ρ', HalfP W P b x (k + 1) next' next v' L' ρ' dv l A' w' ∧ KeptP ρ ρ' b wr w' := by
  obtain ⟨v', L', hT, hlw, hA⟩ := hT
  obtain ⟨ρ', h1, h2, h3, h4⟩ := both_prog h.st h.doc h.nb hT
  exact ⟨v', L', ρ', ⟨h1, h2, h3, h.wb, hA, hlw⟩, h4⟩
theorem HalfP.then_doc (h : HalfP W P b x k next nd v L ρ dv l A' wr) (hD : QDocPost (FreeP ρ b) b x next A' u wr e w') : e = .returned u ∧ (∃ dv' l', BothP W P b x k next v L ρ dv' l' w') ∧ KeptP ρ ρ b wr w' := by
  obtain ⟨he, hF, dv', l', hR, hA⟩ := hD
  exact ⟨he, ⟨dv', l', pl_doc h.st hF h.nb h.wb, hR, h.nb, h.wb, by rw [h.abs, hA], h.lw⟩, doc_keptP hF⟩
structure HalfD (W : World) (P b : Nat) (x : PX) (k : Nat) (next nd : Int) (v : Value) (L : List PN) (ρ : Roles) (A : List AR) (wr : World) : Prop where
  st : PlState W P x next v L ρ wr
  doc : ∃ dv l, RefP (FreeP ρ b) wr b x nd dv l ∧ l.map QP.abs = A
  nb : ρ b = []
  wb : W.heap.size ≤ b
  lw : Lw x next L k
theorem BothP.first_doc (h : BothP W P b x k next v L ρ dv l wr) (hD : QDocPost (FreeP ρ b) b x next' A' u wr e w') : e = .returned u ∧ HalfD W P b x k next next' v L ρ A' w' ∧ KeptP ρ ρ b wr w' := by
  obtain ⟨he, hF, dv', l', hR, hA⟩ := hD
  exact ⟨he, ⟨pl_doc h.st hF h.nb h.wb, ⟨dv', l', hR, hA⟩, h.nb, h.wb, h.lw⟩, doc_keptP hF⟩
theorem HalfD.then_prog (h : HalfD W P b x k next next' v L ρ A' wr) (hT : ∃ v' L', TurnPost ρ wr P x next' v' L' w' ∧ Lw x next' L' (k + 1) ∧ L'.map PN.abs = A') : (∃ v' L' ρ' dv l, BothP W P b x (k + 1) next' v' L' ρ' dv l w' ∧ KeptP ρ ρ' b wr w') := by
  obtain ⟨v', L', hT, hlw, hA⟩ := hT
  obtain ⟨dv, l, hd, hl⟩ := h.doc
  obtain ⟨ρ', h1, h2, h3, h4⟩ := both_prog h.st hd h.nb hT
  exact ⟨v', L', ρ', dv, l, ⟨h1, h2, h3, h.wb, by rw [hA, hl], hlw⟩, h4⟩
end
def TwinP (W : World) (P b : Nat) (x : PX) (k : Nat) (w : World) : Prop := ∃ next v L ρ dv l, BothP W P b x k next v L ρ dv l w
def TwinPPost (W : World) (P b : Nat) (x : PX) (k : Nat) (e : Ending) (w' : World) : Prop := e = .returned (.bool true) ∧ TwinP W P b x k w'
theorem TwinP.on {W : World} {P b : Nat} {x : PX} {k : Nat} {w w' : World} (h : TwinP W P b x k w) (hb : Below w.heap.size w w') : TwinP W P b x k w' := by
  obtain ⟨next, v, L, ρ, dv, l, h⟩ := h
  exact ⟨next, v, L, ρ, dv, l, h.on hb⟩
end Go.Proofs.YtdbjihkgafhakaaGreatDoor
namespace Go.Proofs.YtdbjihkgafhakaaGreatDoor
open Go.RowKit Go.Sort
theorem SlAt.cells {α : Type} {enc : α → List Value} {K : Nat} {w : World} {a : Option Addr} {N cap : Nat} {l : List α} (h : SlAt w (.slice a N cap) N (l.flatMap enc)) (hK : ∀ x, (enc x).length = K) (h0 : 0 < K) {k : Nat} {x : α} (hx : l[k]? = some x) : ∃ g off, a = some ⟨g, off, none⟩ ∧ ∀ i u, (enc x)[i]? = some u → w.cell? ⟨g, off + k * K + i, none⟩ = some u := by
  obtain ⟨a', cap', hv, _, hc⟩ := h
  cases hv
  have key : ∀ i u, (enc x)[i]? = some u → (l.flatMap enc)[k * K + i]? = some u := fun i u hu => by
    have hi : i < K := by rw [← hK x]; exact (List.getElem?_eq_some_iff.1 hu).1
    rw [flat_at enc K hK i hx hi]
    exact hu
  obtain ⟨g, off, rfl, _⟩ := hc _ _ (key 0 _ (List.getElem?_eq_getElem (by rw [hK]; exact h0)))
  refine ⟨g, off, rfl, fun i u hu => ?_⟩
  obtain ⟨g', off', he, h1⟩ := hc _ _ (key i u hu)
  cases he
  rw [Nat.add_assoc]
  exact h1
theorem SlAt.one {w : World} {a : Option Addr} {N cap : Nat} {us : List Value} (h : SlAt w (.slice a N cap) N us) {k : Nat} {u : Value} (hu : us[k]? = some u) : ∃ g off, a = some ⟨g, off, none⟩ ∧ w.cell? ⟨g, off + k, none⟩ = some u := by
  obtain ⟨a', cap', hv, _, hc⟩ := h
  cases hv
  exact hc k u hu
theorem place_self {x : PX} {next : Int} {L : List PN} (h : PInv x next L) {m : Nat} {n : PN} (hn : L[m]? = some n) : placeP n.name L = m := by
  rw [placeP_S]
  refine placeS_of (by rw [List.getElem?_map, hn]; rfl) (ba_list_self _) (fun j y hj hy => ?_)
  rw [List.getElem?_map] at hy
  rcases hq : L[j]? with _ | q
  · rw [hq] at hy; cases hy
  · rw [hq] at hy
    obtain rfl := Option.some.inj hy
    rcases he : eqS q.name n.name with _ | _
    · rfl
    · have := h.names j m q n hq hn (eqS_eq he)
      omega
set_option maxRecDepth 100000 in
set_option maxHeartbeats 16000000 in
theorem same17_any {W : World} {P b k : Nat} {x : PX} {next : Int} {v dv : Value} {L : List PN} {ρ : Roles} {l : List QP} (w : World) (h : BothP W P b x k next v L ρ dv l w) (hk : k ≤ 200) :
    Calls Tryz.prog 17 #[.pointer (some ⟨P, 0, none⟩), .agg (pC x next dv)] w (TrueBelow w) := by
  have H := Lib.hid (h.on (box_below (o := .cells (pC x next dv) 45)))
  have hll : L.length = l.length := abs_len h.abs
  have HO := Lib.hid (h.lw.ok hk)
  obtain ⟨da, dc, hdv, -⟩ := h.doc.rows.form
  subst hdv
  have HF := Lib.hid (show l.length ≤ 1000 from h.doc.few)
  clear h hk
  unfold pC at H ⊢
  go_enter Tryz.func17, Tryz.ntmps17
  go_upto_region 1 with fail
  obtain ⟨w1, hw1⟩ : ∃ w1 : World, w1 = w.alloc (.cells #[.int .i64 x.pools, .int .i64 x.classes, .int .i64 x.q, .int .i64 next, .slice da l.length dc] 45) := ⟨_, rfl⟩
  obtain ⟨bx, hbx⟩ : ∃ bx : Nat, bx = w.heap.size := ⟨_, rfl⟩
  rw [← hw1] at H
  rw [← hw1, ← hbx]
  have HX1 := Lib.hid (show w1.heap[bx]? = some (.cells (pC x next (.slice da l.length dc)) 45 (0, 0)) by rw [hw1, hbx]; exact fr_alloc_at)
  have HB1 := Lib.hid (show Below w.heap.size w w1 by rw [hw1]; exact box_below)
  clear hw1 hbx
  go_wp2_with fail
  refine (prows_any w1 H.out.st.pool HO.out).mono ?_
  rintro e w2 ⟨v2, rs, rfl, hsl, hrl, hra, hb2⟩
  rw [hll] at hsl hrl
  obtain ⟨ra, rc, hrv, -⟩ : ∃ ra rc, v2 = .slice ra l.length rc ∧ True := by obtain ⟨ra, rc, e, _⟩ := hsl.form; exact ⟨ra, rc, e, trivial⟩
  subst hrv
  have HSL := Lib.hid hsl
  have HRL := Lib.hid hrl
  have HRA := Lib.hid hra
  have H2 := Lib.hid (H.out.on hb2)
  have HX2 := Lib.hid ((hb2.block _ (fp_lt_of_heap HX1.out)).trans HX1.out)
  have HB2 := Lib.hid (HB1.out.trans (hb2.mono HB1.out.size))
  clear hsl hrl hra hb2
  have b3 : w2.cell? ⟨bx, 3, none⟩ = some (.int .i64 next) := fr_cell_of_heap HX2.out rfl
  have b4 : w2.cell? ⟨bx, 4, none⟩ = some (.slice da l.length dc) := fr_cell_of_heap HX2.out rfl
  have h0 : Below w2.heap.size w2 w2.drew := ⟨rfl, rfl, rfl, Nat.le_refl _, fun _ _ => rfl⟩
  go_upto_region 2 with fail
  go_region_held3 (fun w' => w'.cell? ⟨bx, 3, none⟩ = some (.int .i64 next) ∧ w'.cell? ⟨bx, 4, none⟩ = some (.slice da l.length dc))
    (first | go_keep | exact ⟨cell_below hb6 b3, cell_below hb6 b4⟩)
    (first | (go_at_call 46; refine (pnext_any _ (H2.out.on h0).st.pool).mono ?_; rintro e w6 ⟨rfl, hb6'⟩; (have hb6 := below_chain2 h0 hb6'); clear hb6'))
  have HB6 := Lib.hid (HB2.out.trans (hb6.mono HB2.out.size))
  have H6 := Lib.hid (H2.out.on hb6)
  have HX6 := Lib.hid ((hb6.block _ (fp_lt_of_heap HX2.out)).trans HX2.out)
  have HSL6 := Lib.hid (HSL.out.below hb6)
  have HRA6 := Lib.hid (show ∀ (i : Nat) r n, rs[i]? = some r → L[i]? = some n → PRAt w6 n r from fun i r n h1 h2 => (HRA.out i r n h1 h2).below hb6)
  clear hb6 b3 b4 h0
  have hf := HF.out
  go_wp2_with fail
  go_loopg [6] l.length (fun g i wr => ∃ m : Nat, g = l.length - m ∧ i = .int .i64 m ∧ m ≤ l.length ∧ Below w6.heap.size w6 wr)
  case atStart => exact ⟨0, rfl, rfl, Nat.zero_le _, Below.refl _ _⟩
  case round =>
    obtain ⟨m, hg, rfl, hm, hb⟩ := hrel
    have HG := Lib.hid hg
    have HB := Lib.hid hb
    clear hg hb
    by_cases hlt : m < l.length
    · obtain ⟨n, hn⟩ : ∃ n, L[m]? = some n := ⟨_, List.getElem?_eq_getElem (by omega)⟩
      obtain ⟨p, hp, hnp⟩ := abs_at H6.out.abs hn
      obtain ⟨r, hr⟩ : ∃ r, rs[m]? = some r := ⟨_, List.getElem?_eq_getElem (by have := HRL.out; omega)⟩
      have HN := Lib.hid hn
      have HP := Lib.hid hp
      have HNP := Lib.hid hnp
      have HR := Lib.hid hr
      have hml : (m : Int) < (l.length : Int) := by omega
      obtain ⟨hac1, hac2, hac3⟩ := abs_cls hnp
      have hxl := H6.out.doc.lens p (List.mem_of_getElem? hp)
      have hcx : n.cls.length = x.classes := by omega
      have HPR := Lib.hid (HRA6.out m r n hr hn)
      have hru : r.uses = p.uses := HPR.out.uses.trans (congrArg AR.uses hnp)
      have hrn : r.name = p.name := HPR.out.name.trans hac3
      have HD := Lib.hid (H6.out.doc.below HB.out)
      obtain ⟨g, off, hda, hc1⟩ := HD.out.rows.cells encQP_len (by decide) hp
      subst hda
      have hQ := HD.out.inv p (List.mem_of_getElem? hp)
      obtain ⟨sa, sc, hsv, -⟩ := hQ.sv.form
      obtain ⟨ha, hc, hhv, -⟩ := hQ.hv.form
      rw [hxl.1] at hsv
      rw [hxl.2] at hhv
      have HSV := Lib.hid hsv
      have HHV := Lib.hid hhv
      have HRG := Lib.hid (show wr.rangeAt g (off + m * 4) [.string p.name, .int .i64 p.uses, .slice sa x.classes sc, .slice ha x.classes hc] from fun j u hu => hc1 j u (by unfold encQP; rw [hsv, hhv]; exact hu))
      have b4 : wr.cell? ⟨bx, 4, none⟩ = some (.slice (some ⟨g, off, none⟩) l.length dc) := fr_cell_of_heap ((HB.out.block _ (fp_lt_of_heap HX6.out)).trans HX6.out) rfl
      have HXL := Lib.hid hxl
      have HCX := Lib.hid hcx
      have HRN := Lib.hid (And.intro hrn hru)
      clear hn hp hnp hr hac1 hac2 hac3 hru hrn hc1 hQ hsv hhv hxl hcx
      go_upto_region 8 with (refine wpList_load_mid rfl 55 _ rfl g (off + m * 4) rfl [.string p.name, .int .i64 p.uses, .slice sa x.classes sc, .slice ha x.classes hc] _ HRG.out Tryz.underlying55 rfl (qp_sz p) ?_)
      obtain ⟨w3, hw3⟩ : ∃ w3 : World, w3 = wr.alloc (.cells #[.string p.name, .int .i64 p.uses, .slice sa x.classes sc, .slice ha x.classes hc] 55) := ⟨_, rfl⟩
      obtain ⟨xb, hxb⟩ : ∃ xb : Nat, xb = wr.heap.size := ⟨_, rfl⟩
      rw [← hw3, ← hxb]
      have HX3 := Lib.hid (show w3.heap[xb]? = some (.cells #[.string p.name, .int .i64 p.uses, .slice sa x.classes sc, .slice ha x.classes hc] 55 (0, 0)) by rw [hw3, hxb]; exact fr_alloc_at)
      have HB3 := Lib.hid (show Below w6.heap.size w6 w3 by rw [hw3]; exact HB.out.alloc HB.out.size _)
      clear hw3 hxb b4
      have hsv2 : n.cls.map PC.served = p.served := congrArg AR.served HNP.out
      obtain ⟨qa, qc, hqv, -⟩ := HPR.out.sv.form
      obtain ⟨sl, hsl2, hlk⟩ := HPR.out.hv
      obtain ⟨ea, ec, hev, -⟩ := hsl2.form
      obtain ⟨ga, gc, hgv, -⟩ := HPR.out.gv.form
      rw [HCX.out] at hqv hev hgv
      have HU := Lib.hid (show SlAt w6 (.slice qa x.classes qc) p.served.length (p.served.flatMap encZ) by have h := HPR.out.sv; rw [hqv, hsv2, HCX.out, ← HXL.out.1] at h; rw [← HXL.out.1]; exact h)
      have HV := Lib.hid (show SlAt w6 (.slice sa x.classes sc) p.served.length (p.served.flatMap encZ) by have h := (H6.out.doc.inv p (List.mem_of_getElem? HP.out)).sv; rw [HSV.out] at h; exact h)
      have HE := Lib.hid (show SlAt w6 (.slice ea x.classes ec) x.classes sl by have h := hsl2; rw [hev, HCX.out] at h; exact h)
      have HGV := Lib.hid (show SlAt w6 (.slice ga x.classes gc) x.classes (n.cls.map (fun c => Value.bool c.gv)) by have h := HPR.out.gv; rw [hgv, HCX.out] at h; exact h)
      have HLK := Lib.hid hlk
      obtain ⟨g2, off2, hra, hce⟩ := (HSL6.out.below HB3.out).cells encPR_len (by decide) HR.out
      subst hra
      have e0 : w3.cell? ⟨g2, off2 + m * 5, none⟩ = some (.string p.name) := by have h := hce 0 _ rfl; rw [HRN.out.1] at h; exact h
      have e1 : w3.cell? ⟨g2, off2 + m * 5 + 1, none⟩ = some (.int .i64 p.uses) := by have h := hce 1 _ rfl; rw [HRN.out.2] at h; exact h
      have e2 : w3.cell? ⟨g2, off2 + m * 5 + 2, none⟩ = some (.slice qa x.classes qc) := by have h := hce 2 _ rfl; rw [hqv] at h; exact h
      have e3 : w3.cell? ⟨g2, off2 + m * 5 + 3, none⟩ = some (.slice ea x.classes ec) := by have h := hce 3 _ rfl; rw [hev] at h; exact h
      have e4 : w3.cell? ⟨g2, off2 + m * 5 + 4, none⟩ = some (.slice ga x.classes gc) := by have h := hce 4 _ rfl; rw [hgv] at h; exact h
      have HEC := Lib.hid (And.intro e3 e4)
      have hx1 : w3.heap[bx]? = some (.cells (pC x next (.slice (some ⟨g, off, none⟩) l.length dc)) 45 (0, 0)) := (HB3.out.block _ (fp_lt_of_heap HX6.out)).trans HX6.out
      have r0 := cell_regrown e0
      have r1 := cell_regrown e1
      have r2 := cell_regrown e2
      have r3 := cell_regrown e3
      have r4 := cell_regrown e4
      have x0 := cell_regrown (show w3.cell? ⟨xb, 0, none⟩ = some (.string p.name) from fr_cell_of_heap HX3.out rfl)
      have x1 := cell_regrown (show w3.cell? ⟨xb, 1, none⟩ = some (.int .i64 p.uses) from fr_cell_of_heap HX3.out rfl)
      have x2 := cell_regrown (show w3.cell? ⟨xb, 2, none⟩ = some (.slice sa x.classes sc) from fr_cell_of_heap HX3.out rfl)
      have b1 := cell_regrown (show w3.cell? ⟨bx, 1, none⟩ = some (.int .i64 x.classes) from fr_cell_of_heap hx1 rfl)
      have hcl : x.classes ≤ 4 := H6.out.lw.px.2.1.2
      have hint : ∀ (d : Nat) (os : Array Obj), Calls Tryz.prog 47 #[.slice qa x.classes qc, .slice sa x.classes sc] (grow (redrawn w3 d) os) fun e w' => e = .returned (.bool true) ∧ Below (grow (redrawn w3 d) os).heap.size (grow (redrawn w3 d) os) w' := fun d os =>
        r01Ints_eq _ _ p.served _ (HU.out.below (HB3.out.trans ((below_regrown w3 d os).mono HB3.out.size))) (HV.out.below (HB3.out.trans ((below_regrown w3 d os).mono HB3.out.size))) (by have := HXL.out.1; omega)
      have HINT := Lib.hid hint
      have hn1 : (p.name.toList != p.name.toList) = false := by simp
      have hn2 : (p.uses != p.uses) = false := by simp
      have hn3 : ((x.classes : Int) != (x.classes : Int)) = false := by simp
      clear hsv2 hqv hsl2 hlk hev hgv hce e0 e1 e2 e3 e4 hx1 hint
      go_upto_region 8 with fail
      refine wp_region_quiet_below (by kernel_rfl) (by kernel_rfl) ?_
      repeat (go_big_quiet_step (exact Calls.regrown_of (HINT.out _ _)))
      refine wpQuiet_nil ?_
      rintro _ ⟨⟨dq, osq⟩, rfl⟩
      obtain ⟨w4, hw4⟩ : ∃ w4 : World, w4 = grow (redrawn w3 dq) osq := ⟨_, rfl⟩
      have HB4 := Lib.hid (show Below w3.heap.size w3 w4 by rw [hw4]; exact below_regrown w3 dq osq)
      rw [show (grow (redrawn w3 (Regrown.mk dq osq).d) (Regrown.mk dq osq).os) = w4 from hw4.symm]
      clear hw4 r0 r1 r2 r3 r4 x0 x1 x2 b1 HINT
      clear hn1 hn2 hn3
      go_wp2_with fail
      go_loopg [8] x.classes (fun g i w' => ∃ j : Nat, g = x.classes - j ∧ i = .int .i64 j ∧ j ≤ x.classes ∧ Below w4.heap.size w4 w')
      case atStart => exact ⟨0, rfl, rfl, Nat.zero_le _, Below.refl _ _⟩
      case round =>
        obtain ⟨j, hg, rfl, hj, hb⟩ := hrel
        have HG2 := Lib.hid hg
        have HBJ := Lib.hid (HB4.out.trans (hb.mono HB4.out.size))
        have HBZ := Lib.hid hb
        have HBW := Lib.hid (HB3.out.trans (HBJ.out.mono HB3.out.size))
        clear hg hb
        have b1 : wr.cell? ⟨bx, 1, none⟩ = some (.int .i64 x.classes) := fr_cell_of_heap ((HBW.out.block _ (fp_lt_of_heap HX6.out)).trans HX6.out) rfl
        by_cases hlj : j < x.classes
        · obtain ⟨c, hc⟩ : ∃ c, n.cls[j]? = some c := ⟨_, List.getElem?_eq_getElem (by have := HCX.out; omega)⟩
          obtain ⟨_, y, hy, hgv, hrows⟩ := cls_at HNP.out hc
          have HC := Lib.hid hc
          have HY := Lib.hid hy
          have HGR := Lib.hid (And.intro hgv hrows)
          have hjl : (j : Int) < (x.classes : Int) := by omega
          have x0 : wr.cell? ⟨xb, 0, none⟩ = some (.string p.name) := fr_cell_of_heap ((HBJ.out.block _ (fp_lt_of_heap HX3.out)).trans HX3.out) rfl
          have HPS := Lib.hid (show placeP p.name L = m by rw [← (abs_cls HNP.out).2.2]; exact place_self H6.out.lw.inv HN.out)
          clear hc hy hgv hrows
          go_wp2_with fail
          refine (pshare_some p.name m j n c wr (H6.out.on HBW.out).st.pool HO.out.few HPS.out HN.out HC.out HO.out.cls).mono ?_
          rintro e w7 ⟨rfl, hb7⟩
          have HB7 := Lib.hid (HBW.out.trans (hb7.mono HBW.out.size))
          have HBX := Lib.hid (HBJ.out.trans (hb7.mono HBJ.out.size))
          have HBY := Lib.hid (HBZ.out.trans (hb7.mono HBZ.out.size))
          clear hb7 x0 b1
          have hS7 := (H6.out.on HB7.out).st.pool
          have hC7 := (hS7.need m n HN.out).cls j c HC.out
          have HTT := Lib.hid (HO.out.tot n (List.mem_of_getElem? HN.out) c (List.mem_of_getElem? HC.out))
          have hQ := (H6.out.on HB7.out).doc.inv p (List.mem_of_getElem? HP.out)
          have hDR := hQ.inv y (List.mem_of_getElem? HY.out)
          obtain ⟨ya, yc, hyv, -⟩ := hDR.form
          have hq2 := hQ.hv
          rw [HHV.out, HXL.out.2] at hq2
          obtain ⟨g7, off7, hha, hc7⟩ := hq2.cells (encQS_len x.q) (by decide) HY.out
          subst hha
          obtain ⟨g5, off5, hga, hc5⟩ := (HGV.out.below HB7.out).one (k := j) (u := .bool c.gv) (by rw [List.getElem?_map, HC.out]; rfl)
          subst hga
          obtain ⟨la, lc, hll2⟩ := HLK.out j c HC.out
          have hrl : c.rows.length = y.l.length := by rw [HGR.out.2, List.length_map]
          rw [hrl] at hll2
          obtain ⟨g6, off6, hea, hc6⟩ := (HE.out.below HB7.out).one hll2
          subst hea
          obtain ⟨T, hT⟩ : ∃ T : Nat, T = totT c.rows := ⟨_, rfl⟩
          have r3 := cell_regrown (cell_below HBX.out HEC.out.1)
          have r4 := cell_regrown (cell_below HBX.out HEC.out.2)
          have x0 := cell_regrown (show w7.cell? ⟨xb, 0, none⟩ = some (.string p.name) from fr_cell_of_heap ((HBX.out.block _ (fp_lt_of_heap HX3.out)).trans HX3.out) rfl)
          have x3 := cell_regrown (show w7.cell? ⟨xb, 3, none⟩ = some (.slice (some ⟨g7, off7, none⟩) x.classes hc) from fr_cell_of_heap ((HBX.out.block _ (fp_lt_of_heap HX3.out)).trans HX3.out) rfl)
          have s0 := cell_regrown (show w7.cell? ⟨g7, off7 + j * 3, none⟩ = some (.int .i64 x.q) from hc7 0 _ rfl)
          have s1 := cell_regrown (show w7.cell? ⟨g7, off7 + j * 3 + 1, none⟩ = some (.slice ya y.l.length yc) by rw [← hyv]; exact hc7 1 _ rfl)
          have s2 := cell_regrown (show w7.cell? ⟨g7, off7 + j * 3 + 2, none⟩ = some (.bool c.gv) by rw [HGR.out.1]; exact hc7 2 _ rfl)
          have v5 := cell_regrown hc5
          have v6 := cell_regrown hc6
          have hsame : ∀ (d : Nat) (os : Array Obj), Calls Tryz.prog 48 #[.pointer (some ⟨c.f, 0, none⟩), .agg #[.int .i64 x.q, .slice ya y.l.length yc, .bool c.gv]] (grow (redrawn w7 d) os) fun e w' => e = .returned (.bool true) ∧ Below (grow (redrawn w7 d) os).heap.size (grow (redrawn w7 d) os) w' := fun d os => by
            have h := same16_any x.q y.v y.l _ (hC7.share.below (below_regrown w7 d os)) HTT.out (hDR.below (below_regrown w7 d os)) HGR.out.2.symm
            rw [hyv] at h
            exact h
          have hwait : ∀ (d : Nat) (os : Array Obj), Calls Tryz.prog 13 #[.pointer (some ⟨P, 0, none⟩), .string p.name, .int .i64 j] (grow (redrawn w7 d) os) fun e w' => e = .returned (.int .i64 T) ∧ Below (grow (redrawn w7 d) os).heap.size (grow (redrawn w7 d) os) w' := fun d os => by
            rw [hT]
            exact pwaits_some p.name m j n c _ (hS7.below (below_regrown w7 d os)) HO.out HPS.out HN.out HC.out
          have hlen : ∀ (d : Nat) (os : Array Obj), Calls Tryz.prog 49 #[.agg #[.int .i64 x.q, .slice ya y.l.length yc, .bool c.gv]] (grow (redrawn w7 d) os) fun e w' => e = .returned (.int .i64 T) ∧ Below (grow (redrawn w7 d) os).heap.size (grow (redrawn w7 d) os) w' := fun d os => by
            have h := r16Len_any x.q c.gv y.v y.l _ (hDR.below (below_regrown w7 d os)) (few_dv hDR (by rw [← HGR.out.2]; exact few_tot hC7.share.fullT HTT.out)) (by rw [← HGR.out.2]; have := HTT.out; omega)
            rw [hyv, ← HGR.out.2, ← hT] at h
            exact h
          have HSAME := Lib.hid hsame
          have HWAIT := Lib.hid hwait
          have HLEN := Lib.hid hlen
          have hn1 : ((T : Int) != (T : Int)) = false := by simp
          have hn2 : ((y.l.length : Int) != (y.l.length : Int)) = false := by simp
          have hn3 : (c.gv != c.gv) = false := by simp
          clear hS7 hC7 hQ hDR hyv hq2 hc7 hc5 hll2 hrl hc6 hT hsame hwait hlen
          go_upto_region 14 with fail
          refine wp_region_quiet_below (by kernel_rfl) (by kernel_rfl) ?_
          repeat (go_big_quiet_step (first | exact Calls.regrown_of (HSAME.out _ _) | exact Calls.regrown_of (HWAIT.out _ _) | exact Calls.regrown_of (HLEN.out _ _)))
          refine wpQuiet_nil ?_
          rintro _ ⟨⟨dz, osz⟩, rfl⟩
          obtain ⟨w8, hw8⟩ : ∃ w8 : World, w8 = grow (redrawn w7 dz) osz := ⟨_, rfl⟩
          have HB8 := Lib.hid (show Below w7.heap.size w7 w8 by rw [hw8]; exact below_regrown w7 dz osz)
          rw [show (grow (redrawn w7 (Regrown.mk dz osz).d) (Regrown.mk dz osz).os) = w8 from hw8.symm]
          clear hw8 r3 r4 x0 x3 s0 s1 s2 v5 v6 HSAME HWAIT HLEN
          have HBL := Lib.hid (HBY.out.trans (HB8.out.mono HBY.out.size))
          go_wp2_with fail
          go_roundg (x.classes - (j + 1))
          case rel => exact ⟨j + 1, rfl, by go_num, by omega, HBL.out⟩
          case measure => have := HG2.out; omega
        · go_wp2_with fail
          go_roundg (l.length - (m + 1))
          case rel => exact ⟨m + 1, rfl, by go_num, by omega, HBW.out⟩
          case measure => have := HG.out; omega
    · go_wp2_with fail
      go_ret
      exact ⟨rfl, HB6.out.trans (HB.out.mono HB6.out.size)⟩
end Go.Proofs.YtdbjihkgafhakaaGreatDoor
namespace Go.Proofs.YtdbjihkgafhakaaGreatDoor
open Go.RowKit
theorem pa_cells {w : World} {bx : Nat} {y : Pa} (h : w.heap[bx]? = some (.cells (paC y) 27 (0, 0))) : w.cell? ⟨bx, 1, none⟩ = some (.string y.e.need) ∧ w.cell? ⟨bx, 2, none⟩ = some (.int .i64 y.e.cls) ∧ w.cell? ⟨bx, 3, none⟩ = some (.int .i64 y.e.ten) ∧ w.cell? ⟨bx, 4, none⟩ = some (.int .i64 y.e.tw) ∧ w.cell? ⟨bx, 5, none⟩ = some (.int .i64 y.e.inv) ∧ w.cell? ⟨bx, 6, none⟩ = some (.int .i64 y.e.iw) ∧ w.cell? ⟨bx, 7, none⟩ = some (.int .i64 y.e.id) ∧ w.cell? ⟨bx, 8, none⟩ = some (.int .i64 y.e.cost) :=
  ⟨fr_cell_of_heap h rfl, fr_cell_of_heap h rfl, fr_cell_of_heap h rfl, fr_cell_of_heap h rfl, fr_cell_of_heap h rfl, fr_cell_of_heap h rfl, fr_cell_of_heap h rfl, fr_cell_of_heap h rfl⟩
section
variable {W wr : World} {P b k : Nat} {x : PX} {next : Int} {v dv : Value} {L : List PN} {ρ : Roles} {l : List QP}
set_option maxRecDepth 100000 in
set_option maxHeartbeats 8000000 in
theorem does17_enter (y : Pa) (hkind : y.kind = 0) (hn : y.e.need.size ≤ 200) (h : BothP W P b x k next v L ρ dv l wr) (hk : k ≤ 200) :
    Calls Tryz.prog 16 #[.pointer (some ⟨P, 0, none⟩), .pointer (some ⟨b, 0, none⟩), .agg (paC y)] wr (TwinPPost W P b x (k + 1)) := by
  obtain ⟨n, next', A', hT⟩ := enter_both (x := x) (next := next) (L := L) (k := k) y.e.need hn
  have HT := Lib.hid hT
  have H := Lib.hid h
  have HK := Lib.hid hk
  have hkb0 : (y.kind == 0) = true := by rw [hkind]; rfl
  clear hT h hk hkind
  unfold paC
  go_enter Tryz.func16, Tryz.ntmps16
  go_upto_region 1 with fail
  obtain ⟨w1, hw1⟩ : ∃ w1 : World, w1 = wr.alloc (.cells #[.int .i64 y.kind, .string y.e.need, .int .i64 y.e.cls, .int .i64 y.e.ten, .int .i64 y.e.tw, .int .i64 y.e.inv, .int .i64 y.e.iw, .int .i64 y.e.id, .int .i64 y.e.cost, .string y.plat] 27) := ⟨_, rfl⟩
  obtain ⟨bx, hbx⟩ : ∃ bx : Nat, bx = wr.heap.size := ⟨_, rfl⟩
  rw [← hw1, ← hbx]
  have hx1 : w1.heap[bx]? = some (.cells (paC y) 27 (0, 0)) := by rw [hw1, hbx]; exact fr_alloc_at
  have HXF := Lib.hid (show FreeP ρ b bx by rw [hbx]; exact H.out.doc.up _ (Nat.le_refl _))
  have HBD := Lib.hid (show BothP W P b x k next v L ρ dv l w1.drew by rw [hw1]; exact (H.out.on box_below).on ⟨rfl, rfl, rfl, Nat.le_refl _, fun _ _ => rfl⟩)
  have HXD := Lib.hid (show w1.drew.heap[bx]? = some (.cells (paC y) 27 (0, 0)) from hx1)
  have HTW := Lib.hid (HT.out P v ρ _ HBD.out.st.pool HBD.out.lw HK.out)
  have c0 : w1.cell? ⟨bx, 0, none⟩ = some (.int .i64 y.kind) := fr_cell_of_heap hx1 rfl
  obtain ⟨c1, c2, c3, c4, c5, c6, c7, c8⟩ := pa_cells hx1
  clear hw1 hbx hx1
  go_upto_region 3 with fail
  go_region_held3 (fun w' => w'.cell? ⟨bx, 1, none⟩ = some (.string y.e.need))
    (first | go_keep | exact fr_cell_of_heap hx7.out rfl | exact fr_cell_of_heap hx8.out rfl | exact fr_cell_of_heap hx9.out rfl)
    (first
      | (go_at_call 26; refine (num17_any _ _).mono ?_; rintro e w10 ⟨rfl, rfl⟩)
      | (go_at_call 9; refine (HT.out P v ρ _ HB8.out.st.pool HB8.out.lw HK.out).1.mono ?_; rintro e w9 ⟨rfl, hp9⟩; obtain ⟨v9, L9, ρ9, dv9, l9, hb9, hk9⟩ := HB8.out.then_prog hp9; (have hx9 := Lib.hid (hk9 _ _ hx8.out HXF.out).1); (have HE := Lib.hid (show TwinP W P b x (k + 1) w9 from ⟨_, _, _, _, _, _, hb9⟩)); clear hb9 hk9 hp9)
      | (go_at_call 9; refine HTW.out.1.mono ?_; rintro e w7 ⟨rfl, hp7⟩; obtain ⟨v7, L7, ρ7, hb7, hk7⟩ := HBD.out.first_prog hp7; (have HB7 := Lib.hid hb7); (have hx7 := Lib.hid (hk7 _ _ HXD.out HXF.out).1); (have HXF7 := Lib.hid (hk7 _ _ HXD.out HXF.out).2); clear hb7 hk7 hp7)
      | (go_at_call 40; refine (HTW.out.2 _ b dv l _ HB7.out.doc HBD.out.abs).mono ?_; rintro e w9 hd9; obtain ⟨he9, ⟨dv9, l9, hb9⟩, hk9⟩ := HB7.out.then_doc hd9; subst he9; (have hx9 := Lib.hid (hk9 _ _ hx7.out HXF7.out).1); (have HE := Lib.hid (show TwinP W P b x (k + 1) w9 from ⟨_, _, _, _, _, _, hb9⟩)); clear hb9 hk9 hd9)
      | (go_at_call 40; refine (HTW.out.2 _ b dv l _ HBD.out.doc HBD.out.abs).mono ?_; rintro e w8 hd8; obtain ⟨he8, hb8, hk8⟩ := HBD.out.first_doc hd8; subst he8; (have HB8 := Lib.hid hb8); (have hx8 := Lib.hid (hk8 _ _ HXD.out HXF.out).1); clear hb8 hk8 hd8))
  all_goals
    go_wp2_with fail
    go_ret
    exact ⟨ret_bool (by simp), HE.out⟩
set_option maxRecDepth 100000 in
set_option maxHeartbeats 8000000 in
theorem does17_leave (y : Pa) (hkind : y.kind = 1) (h : BothP W P b x k next v L ρ dv l wr) (hk : k ≤ 200) :
    Calls Tryz.prog 16 #[.pointer (some ⟨P, 0, none⟩), .pointer (some ⟨b, 0, none⟩), .agg (paC y)] wr (TwinPPost W P b x (k + 1)) := by
  obtain ⟨n, next', A', hT⟩ := leave_both (x := x) (next := next) (L := L) (k := k) y.e.need
  have HT := Lib.hid hT
  have H := Lib.hid h
  have HK := Lib.hid hk
  have hkb0 : (y.kind == 0) = false := by rw [hkind]; rfl
  have hkb1 : (y.kind == 1) = true := by rw [hkind]; rfl
  clear hT h hk hkind
  unfold paC
  go_enter Tryz.func16, Tryz.ntmps16
  go_upto_region 1 with fail
  obtain ⟨w1, hw1⟩ : ∃ w1 : World, w1 = wr.alloc (.cells #[.int .i64 y.kind, .string y.e.need, .int .i64 y.e.cls, .int .i64 y.e.ten, .int .i64 y.e.tw, .int .i64 y.e.inv, .int .i64 y.e.iw, .int .i64 y.e.id, .int .i64 y.e.cost, .string y.plat] 27) := ⟨_, rfl⟩
  obtain ⟨bx, hbx⟩ : ∃ bx : Nat, bx = wr.heap.size := ⟨_, rfl⟩
  rw [← hw1, ← hbx]
  have hx1 : w1.heap[bx]? = some (.cells (paC y) 27 (0, 0)) := by rw [hw1, hbx]; exact fr_alloc_at
  have HXF := Lib.hid (show FreeP ρ b bx by rw [hbx]; exact H.out.doc.up _ (Nat.le_refl _))
  have HBD := Lib.hid (show BothP W P b x k next v L ρ dv l w1.drew by rw [hw1]; exact (H.out.on box_below).on ⟨rfl, rfl, rfl, Nat.le_refl _, fun _ _ => rfl⟩)
  have HXD := Lib.hid (show w1.drew.heap[bx]? = some (.cells (paC y) 27 (0, 0)) from hx1)
  have HTW := Lib.hid (HT.out P v ρ _ HBD.out.st.pool HBD.out.lw HK.out)
  have c0 : w1.cell? ⟨bx, 0, none⟩ = some (.int .i64 y.kind) := fr_cell_of_heap hx1 rfl
  obtain ⟨c1, c2, c3, c4, c5, c6, c7, c8⟩ := pa_cells hx1
  clear hw1 hbx hx1
  go_upto_region 5 with fail
  go_region_held3 (fun w' => w'.cell? ⟨bx, 1, none⟩ = some (.string y.e.need))
    (first | go_keep | exact fr_cell_of_heap hx7.out rfl | exact fr_cell_of_heap hx8.out rfl | exact fr_cell_of_heap hx9.out rfl)
    (first
      | (go_at_call 10; refine (HT.out P v ρ _ HB8.out.st.pool HB8.out.lw HK.out).1.mono ?_; rintro e w9 ⟨rfl, hp9⟩; obtain ⟨v9, L9, ρ9, dv9, l9, hb9, hk9⟩ := HB8.out.then_prog hp9; (have hx9 := Lib.hid (hk9 _ _ hx8.out HXF.out).1); (have HE := Lib.hid (show TwinP W P b x (k + 1) w9 from ⟨_, _, _, _, _, _, hb9⟩)); clear hb9 hk9 hp9)
      | (go_at_call 10; refine HTW.out.1.mono ?_; rintro e w7 ⟨rfl, hp7⟩; obtain ⟨v7, L7, ρ7, hb7, hk7⟩ := HBD.out.first_prog hp7; (have HB7 := Lib.hid hb7); (have hx7 := Lib.hid (hk7 _ _ HXD.out HXF.out).1); (have HXF7 := Lib.hid (hk7 _ _ HXD.out HXF.out).2); clear hb7 hk7 hp7)
      | (go_at_call 41; refine (HTW.out.2 _ b dv l _ HB7.out.doc HBD.out.abs).mono ?_; rintro e w9 hd9; obtain ⟨he9, ⟨dv9, l9, hb9⟩, hk9⟩ := HB7.out.then_doc hd9; subst he9; (have hx9 := Lib.hid (hk9 _ _ hx7.out HXF7.out).1); (have HE := Lib.hid (show TwinP W P b x (k + 1) w9 from ⟨_, _, _, _, _, _, hb9⟩)); clear hb9 hk9 hd9)
      | (go_at_call 41; refine (HTW.out.2 _ b dv l _ HBD.out.doc HBD.out.abs).mono ?_; rintro e w8 hd8; obtain ⟨he8, hb8, hk8⟩ := HBD.out.first_doc hd8; subst he8; (have HB8 := Lib.hid hb8); (have hx8 := Lib.hid (hk8 _ _ HXD.out HXF.out).1); clear hb8 hk8 hd8))
  all_goals
    go_wp2_with fail
    go_ret
    exact ⟨ret_bool (by simp), HE.out⟩
set_option maxRecDepth 100000 in
set_option maxHeartbeats 8000000 in
theorem does17_push (y : Pa) (hkind : y.kind = 2) (hten : I64 y.e.ten) (hinv : I64 y.e.inv) (hid : I64 y.e.id) (h : BothP W P b x k next v L ρ dv l wr) (hk : k ≤ 200) :
    Calls Tryz.prog 16 #[.pointer (some ⟨P, 0, none⟩), .pointer (some ⟨b, 0, none⟩), .agg (paC y)] wr (TwinPPost W P b x (k + 1)) := by
  obtain ⟨n, next', A', hT⟩ := push_both (x := x) (next := next) (L := L) (k := k) y.e hten hinv hid
  have HT := Lib.hid hT
  have H := Lib.hid h
  have HK := Lib.hid hk
  have hkb0 : (y.kind == 0) = false := by rw [hkind]; rfl
  have hkb1 : (y.kind == 1) = false := by rw [hkind]; rfl
  have hkb2 : (y.kind == 2) = true := by rw [hkind]; rfl
  clear hT h hk hkind
  unfold paC
  go_enter Tryz.func16, Tryz.ntmps16
  go_upto_region 1 with fail
  obtain ⟨w1, hw1⟩ : ∃ w1 : World, w1 = wr.alloc (.cells #[.int .i64 y.kind, .string y.e.need, .int .i64 y.e.cls, .int .i64 y.e.ten, .int .i64 y.e.tw, .int .i64 y.e.inv, .int .i64 y.e.iw, .int .i64 y.e.id, .int .i64 y.e.cost, .string y.plat] 27) := ⟨_, rfl⟩
  obtain ⟨bx, hbx⟩ : ∃ bx : Nat, bx = wr.heap.size := ⟨_, rfl⟩
  rw [← hw1, ← hbx]
  have hx1 : w1.heap[bx]? = some (.cells (paC y) 27 (0, 0)) := by rw [hw1, hbx]; exact fr_alloc_at
  have HXF := Lib.hid (show FreeP ρ b bx by rw [hbx]; exact H.out.doc.up _ (Nat.le_refl _))
  have HBD := Lib.hid (show BothP W P b x k next v L ρ dv l w1.drew by rw [hw1]; exact (H.out.on box_below).on ⟨rfl, rfl, rfl, Nat.le_refl _, fun _ _ => rfl⟩)
  have HXD := Lib.hid (show w1.drew.heap[bx]? = some (.cells (paC y) 27 (0, 0)) from hx1)
  have HTW := Lib.hid (HT.out P v ρ _ HBD.out.st.pool HBD.out.lw HK.out)
  have c0 : w1.cell? ⟨bx, 0, none⟩ = some (.int .i64 y.kind) := fr_cell_of_heap hx1 rfl
  obtain ⟨c1, c2, c3, c4, c5, c6, c7, c8⟩ := pa_cells hx1
  clear hw1 hbx hx1
  go_upto_region 7 with fail
  go_region_held3 (fun w' => w'.cell? ⟨bx, 1, none⟩ = some (.string y.e.need) ∧ w'.cell? ⟨bx, 2, none⟩ = some (.int .i64 y.e.cls) ∧ w'.cell? ⟨bx, 3, none⟩ = some (.int .i64 y.e.ten) ∧ w'.cell? ⟨bx, 4, none⟩ = some (.int .i64 y.e.tw) ∧ w'.cell? ⟨bx, 5, none⟩ = some (.int .i64 y.e.inv) ∧ w'.cell? ⟨bx, 6, none⟩ = some (.int .i64 y.e.iw) ∧ w'.cell? ⟨bx, 7, none⟩ = some (.int .i64 y.e.id) ∧ w'.cell? ⟨bx, 8, none⟩ = some (.int .i64 y.e.cost))
    (first | go_keep | exact pa_cells hx7.out | exact pa_cells hx8.out | exact pa_cells hx9.out)
    (first
      | (go_at_call 26; refine (num17_any _ _).mono ?_; rintro e w10 ⟨rfl, rfl⟩)
      | (go_at_call 11; refine (HT.out P v ρ _ HB8.out.st.pool HB8.out.lw HK.out).1.mono ?_; rintro e w9 ⟨rfl, hp9⟩; obtain ⟨v9, L9, ρ9, dv9, l9, hb9, hk9⟩ := HB8.out.then_prog hp9; (have hx9 := Lib.hid (hk9 _ _ hx8.out HXF.out).1); (have HE := Lib.hid (show TwinP W P b x (k + 1) w9 from ⟨_, _, _, _, _, _, hb9⟩)); clear hb9 hk9 hp9)
      | (go_at_call 11; refine HTW.out.1.mono ?_; rintro e w7 ⟨rfl, hp7⟩; obtain ⟨v7, L7, ρ7, hb7, hk7⟩ := HBD.out.first_prog hp7; (have HB7 := Lib.hid hb7); (have hx7 := Lib.hid (hk7 _ _ HXD.out HXF.out).1); (have HXF7 := Lib.hid (hk7 _ _ HXD.out HXF.out).2); clear hb7 hk7 hp7)
      | (go_at_call 42; refine (HTW.out.2 _ b dv l _ HB7.out.doc HBD.out.abs).mono ?_; rintro e w9 hd9; obtain ⟨he9, ⟨dv9, l9, hb9⟩, hk9⟩ := HB7.out.then_doc hd9; subst he9; (have hx9 := Lib.hid (hk9 _ _ hx7.out HXF7.out).1); (have HE := Lib.hid (show TwinP W P b x (k + 1) w9 from ⟨_, _, _, _, _, _, hb9⟩)); clear hb9 hk9 hd9)
      | (go_at_call 42; refine (HTW.out.2 _ b dv l _ HBD.out.doc HBD.out.abs).mono ?_; rintro e w8 hd8; obtain ⟨he8, hb8, hk8⟩ := HBD.out.first_doc hd8; subst he8; (have HB8 := Lib.hid hb8); (have hx8 := Lib.hid (hk8 _ _ HXD.out HXF.out).1); clear hb8 hk8 hd8))
  all_goals
    go_wp2_with fail
    go_ret
    exact ⟨ret_bool (by simp), HE.out⟩
set_option maxRecDepth 100000 in
set_option maxHeartbeats 8000000 in
theorem does17_drop (y : Pa) (hkind : y.kind = 3) (hid : I64 y.e.id) (h : BothP W P b x k next v L ρ dv l wr) (hk : k ≤ 200) :
    Calls Tryz.prog 16 #[.pointer (some ⟨P, 0, none⟩), .pointer (some ⟨b, 0, none⟩), .agg (paC y)] wr (TwinPPost W P b x (k + 1)) := by
  obtain ⟨n, next', A', hT⟩ := drop_both (x := x) (next := next) (L := L) (k := k) y.e hid
  have HT := Lib.hid hT
  have H := Lib.hid h
  have HK := Lib.hid hk
  have hkb0 : (y.kind == 0) = false := by rw [hkind]; rfl
  have hkb1 : (y.kind == 1) = false := by rw [hkind]; rfl
  have hkb2 : (y.kind == 2) = false := by rw [hkind]; rfl
  have hkb3 : (y.kind == 3) = true := by rw [hkind]; rfl
  clear hT h hk hkind
  unfold paC
  go_enter Tryz.func16, Tryz.ntmps16
  go_upto_region 1 with fail
  obtain ⟨w1, hw1⟩ : ∃ w1 : World, w1 = wr.alloc (.cells #[.int .i64 y.kind, .string y.e.need, .int .i64 y.e.cls, .int .i64 y.e.ten, .int .i64 y.e.tw, .int .i64 y.e.inv, .int .i64 y.e.iw, .int .i64 y.e.id, .int .i64 y.e.cost, .string y.plat] 27) := ⟨_, rfl⟩
  obtain ⟨bx, hbx⟩ : ∃ bx : Nat, bx = wr.heap.size := ⟨_, rfl⟩
  rw [← hw1, ← hbx]
  have hx1 : w1.heap[bx]? = some (.cells (paC y) 27 (0, 0)) := by rw [hw1, hbx]; exact fr_alloc_at
  have HXF := Lib.hid (show FreeP ρ b bx by rw [hbx]; exact H.out.doc.up _ (Nat.le_refl _))
  have HBD := Lib.hid (show BothP W P b x k next v L ρ dv l w1.drew by rw [hw1]; exact (H.out.on box_below).on ⟨rfl, rfl, rfl, Nat.le_refl _, fun _ _ => rfl⟩)
  have HXD := Lib.hid (show w1.drew.heap[bx]? = some (.cells (paC y) 27 (0, 0)) from hx1)
  have HTW := Lib.hid (HT.out P v ρ _ HBD.out.st.pool HBD.out.lw HK.out)
  have c0 : w1.cell? ⟨bx, 0, none⟩ = some (.int .i64 y.kind) := fr_cell_of_heap hx1 rfl
  obtain ⟨c1, c2, c3, c4, c5, c6, c7, c8⟩ := pa_cells hx1
  clear hw1 hbx hx1
  go_upto_region 9 with fail
  go_region_held3 (fun w' => w'.cell? ⟨bx, 1, none⟩ = some (.string y.e.need) ∧ w'.cell? ⟨bx, 2, none⟩ = some (.int .i64 y.e.cls) ∧ w'.cell? ⟨bx, 3, none⟩ = some (.int .i64 y.e.ten) ∧ w'.cell? ⟨bx, 4, none⟩ = some (.int .i64 y.e.tw) ∧ w'.cell? ⟨bx, 5, none⟩ = some (.int .i64 y.e.inv) ∧ w'.cell? ⟨bx, 6, none⟩ = some (.int .i64 y.e.iw) ∧ w'.cell? ⟨bx, 7, none⟩ = some (.int .i64 y.e.id) ∧ w'.cell? ⟨bx, 8, none⟩ = some (.int .i64 y.e.cost))
    (first | go_keep | exact pa_cells hx7.out | exact pa_cells hx8.out | exact pa_cells hx9.out)
    (first
      | (go_at_call 12; refine (HT.out P v ρ _ HB8.out.st.pool HB8.out.lw HK.out).1.mono ?_; rintro e w9 ⟨rfl, hp9⟩; obtain ⟨v9, L9, ρ9, dv9, l9, hb9, hk9⟩ := HB8.out.then_prog hp9; (have hx9 := Lib.hid (hk9 _ _ hx8.out HXF.out).1); (have HE := Lib.hid (show TwinP W P b x (k + 1) w9 from ⟨_, _, _, _, _, _, hb9⟩)); clear hb9 hk9 hp9)
      | (go_at_call 12; refine HTW.out.1.mono ?_; rintro e w7 ⟨rfl, hp7⟩; obtain ⟨v7, L7, ρ7, hb7, hk7⟩ := HBD.out.first_prog hp7; (have HB7 := Lib.hid hb7); (have hx7 := Lib.hid (hk7 _ _ HXD.out HXF.out).1); (have HXF7 := Lib.hid (hk7 _ _ HXD.out HXF.out).2); clear hb7 hk7 hp7)
      | (go_at_call 43; refine (HTW.out.2 _ b dv l _ HB7.out.doc HBD.out.abs).mono ?_; rintro e w9 hd9; obtain ⟨he9, ⟨dv9, l9, hb9⟩, hk9⟩ := HB7.out.then_doc hd9; subst he9; (have hx9 := Lib.hid (hk9 _ _ hx7.out HXF7.out).1); (have HE := Lib.hid (show TwinP W P b x (k + 1) w9 from ⟨_, _, _, _, _, _, hb9⟩)); clear hb9 hk9 hd9)
      | (go_at_call 43; refine (HTW.out.2 _ b dv l _ HBD.out.doc HBD.out.abs).mono ?_; rintro e w8 hd8; obtain ⟨he8, hb8, hk8⟩ := HBD.out.first_doc hd8; subst he8; (have HB8 := Lib.hid hb8); (have hx8 := Lib.hid (hk8 _ _ HXD.out HXF.out).1); clear hb8 hk8 hd8))
  all_goals
    go_wp2_with fail
    go_ret
    exact ⟨ret_bool (by simp), HE.out⟩
end
end Go.Proofs.YtdbjihkgafhakaaGreatDoor
namespace Go.Proofs.YtdbjihkgafhakaaGreatDoor
open Go.RowKit
theorem eqFields_same {P : Program} (d : Nat) (xs : Array Value) (w : World) : ∀ (fs : List Field), (∀ f ∈ fs, ∃ v, (part f.type xs f.offset).run P w = .ok v w ∧ (Op.equalIn d f.type v v).run P w = .ok true w) → (Op.eqFields d xs xs fs).run P w = .ok true w
  | [], _ => by simp [Op.eqFields]
  | f :: fs, h => by
    obtain ⟨v, h1, h2⟩ := h f (by simp)
    have ih := eqFields_same d xs w fs (fun g hg => h g (by simp [hg]))
    rw [Op.eqFields]
    split
    · simp only [Sem.run_bind, h1, Result.andThen_ok, h2, Bool.not_true, Bool.false_eq_true, if_false]
      exact ih
    · exact ih
theorem ent_eq_self (o : Ent) (w : World) : (binOp .eql 25 (entV o) (entV o)).run Tryz.prog w = .ok (.bool true) w := by
  unfold entV
  rw [run_eql_struct, show (10000 : Nat) = 9999 + 1 from rfl, run_equalIn_agg w 9999 25 _ _ (by kernel_rfl) (by kernel_rfl)]
  have h : (Op.eqFields 9999 (entC o) (entC o) (Tryz.prog.fieldsOf 25).toList).run Tryz.prog w = .ok true w := by
    refine eqFields_same _ _ _ _ ?_
    simp only [Program.fieldsOf, Tryz.underlying25]
    simp only [List.forall_mem_cons]
    refine ⟨⟨.string o.need, by (simp only [entC]; go_simp), by (go_simp; try simp)⟩, ⟨.int .i64 o.cls, by (simp only [entC]; go_simp), by (go_simp; try simp)⟩, ⟨.int .i64 o.ten, by (simp only [entC]; go_simp), by (go_simp; try simp)⟩, ⟨.int .i64 o.tw, by (simp only [entC]; go_simp), by (go_simp; try simp)⟩, ⟨.int .i64 o.inv, by (simp only [entC]; go_simp), by (go_simp; try simp)⟩, ⟨.int .i64 o.iw, by (simp only [entC]; go_simp), by (go_simp; try simp)⟩, ⟨.int .i64 o.id, by (simp only [entC]; go_simp), by (go_simp; try simp)⟩, ⟨.int .i64 o.cost, by (simp only [entC]; go_simp), by (go_simp; try simp)⟩, ?_⟩
    simp
  rw [h]
  rfl
theorem ent_guard : Tryz.prog.eqGuardType Tryz.prog.depth 25 = false := by kernel_rfl
theorem wpList_ent_eql {w : World} {ops : Array Oper} {rest : List Oper} {o : Oper} {a : Act} {Q : Exit → Act → World → Prop} {p : Ent} {tr : TypeId} (hgd : o.guard = none) (x y : Operand) (ho : o.op = .binOp .eql 25 x y tr)
    (hx : a.eval x = entV p) (hy : a.eval y = entV p) (h : wpList Tryz.prog ops Q rest (a.put o.dst (.bool true)) w) : wpList Tryz.prog ops Q (o :: rest) a w := by
  refine wpList_plain hgd fun K hK => ?_
  have hrun : (execOp a.eval o).run Tryz.prog w = .ok (.value (.bool true)) w := by
    simp only [execOp, ho, hx, hy, Sem.run_bind, entV, run_eqGuard_agg _ _ _ _ _ _ _ ent_guard, Result.andThen_ok]
    have h := ent_eq_self p w
    unfold entV at h
    rw [h]
    rfl
  unfold Oper.wp
  rw [hrun, Oper.upon_value]
  exact hK _ _ h
end Go.Proofs.YtdbjihkgafhakaaGreatDoor
namespace Go.Proofs.YtdbjihkgafhakaaGreatDoor
open Go.RowKit
theorem HalfP.on {W wr w' : World} {P b k : Nat} {x : PX} {next nd : Int} {v dv : Value} {L : List PN} {ρ : Roles} {l : List QP} {A : List AR} (h : HalfP W P b x k next nd v L ρ dv l A wr) (hb : Below wr.heap.size wr w') : HalfP W P b x k next nd v L ρ dv l A w' := ⟨h.st.on hb, h.doc.below hb, h.nb, h.wb, h.abs, h.lw⟩
def entO17 (E : Ent) : Obj := .cells (entC E) 25 (0, 0)
theorem ent_cells17 {w : World} {bx : Nat} {E : Ent} (h : w.heap[bx]? = some (entO17 E)) : w.cell? ⟨bx, 0, none⟩ = some (.string E.need) ∧ w.cell? ⟨bx, 1, none⟩ = some (.int .i64 E.cls) ∧ w.cell? ⟨bx, 2, none⟩ = some (.int .i64 E.ten) ∧ w.cell? ⟨bx, 3, none⟩ = some (.int .i64 E.tw) ∧ w.cell? ⟨bx, 4, none⟩ = some (.int .i64 E.inv) ∧ w.cell? ⟨bx, 5, none⟩ = some (.int .i64 E.iw) ∧ w.cell? ⟨bx, 6, none⟩ = some (.int .i64 E.id) ∧ w.cell? ⟨bx, 7, none⟩ = some (.int .i64 E.cost) :=
  ⟨fr_cell_of_heap h rfl, fr_cell_of_heap h rfl, fr_cell_of_heap h rfl, fr_cell_of_heap h rfl, fr_cell_of_heap h rfl, fr_cell_of_heap h rfl, fr_cell_of_heap h rfl, fr_cell_of_heap h rfl⟩
section
variable {W wr : World} {P b k : Nat} {x : PX} {next : Int} {v dv : Value} {L : List PN} {ρ : Roles} {l : List QP}
set_option maxRecDepth 100000 in
set_option maxHeartbeats 8000000 in
theorem does17_take (y : Pa) (h0 : y.kind ≠ 0) (h1 : y.kind ≠ 1) (h2 : y.kind ≠ 2) (h3 : y.kind ≠ 3) (hpl : y.plat.size ≤ 200) (hr : Ready wr) (h : BothP W P b x k next v L ρ dv l wr) (hk : k ≤ 200) :
    Calls Tryz.prog 16 #[.pointer (some ⟨P, 0, none⟩), .pointer (some ⟨b, 0, none⟩), .agg (paC y)] wr (TwinPPost W P b x (k + 1)) := by
  have hkb0 : (y.kind == 0) = false := beq_eq_false_iff_ne.2 h0
  have hkb1 : (y.kind == 1) = false := beq_eq_false_iff_ne.2 h1
  have hkb2 : (y.kind == 2) = false := beq_eq_false_iff_ne.2 h2
  have hkb3 : (y.kind == 3) = false := beq_eq_false_iff_ne.2 h3
  have HR := Lib.hid (hr.below (box_below (o := .cells (paC y) 27)))
  have H := Lib.hid h
  have HK := Lib.hid (And.intro hk hpl)
  clear h hk h0 h1 h2 h3 hpl hr
  unfold paC at HR ⊢
  go_enter Tryz.func16, Tryz.ntmps16
  go_upto_region 1 with fail
  obtain ⟨w1, hw1⟩ : ∃ w1 : World, w1 = wr.alloc (.cells #[.int .i64 y.kind, .string y.e.need, .int .i64 y.e.cls, .int .i64 y.e.ten, .int .i64 y.e.tw, .int .i64 y.e.inv, .int .i64 y.e.iw, .int .i64 y.e.id, .int .i64 y.e.cost, .string y.plat] 27) := ⟨_, rfl⟩
  obtain ⟨bx, hbx⟩ : ∃ bx : Nat, bx = wr.heap.size := ⟨_, rfl⟩
  rw [← hw1] at HR
  rw [← hw1, ← hbx]
  have hx1 : w1.heap[bx]? = some (.cells (paC y) 27 (0, 0)) := by rw [hw1, hbx]; exact fr_alloc_at
  have HXF := Lib.hid (show FreeP ρ b bx by rw [hbx]; exact H.out.doc.up _ (Nat.le_refl _))
  have HX1 := Lib.hid hx1
  have HB1 := Lib.hid (show BothP W P b x k next v L ρ dv l w1 by rw [hw1]; exact H.out.on box_below)
  have c0 : w1.cell? ⟨bx, 0, none⟩ = some (.int .i64 y.kind) := fr_cell_of_heap hx1 rfl
  have c2 : w1.cell? ⟨bx, 2, none⟩ = some (.int .i64 y.e.cls) := fr_cell_of_heap hx1 rfl
  have c9 : w1.cell? ⟨bx, 9, none⟩ = some (.string y.plat) := fr_cell_of_heap hx1 rfl
  clear hw1 hbx hx1
  obtain ⟨R, hdet, hform, hprog, hdoc⟩ := take_both y.plat y.e.cls w1 HK.out.2 HR.out HB1.out.st.pool HB1.out.lw HK.out.1
  have HDET := Lib.hid hdet
  have HFORM := Lib.hid hform
  have HPROG := Lib.hid hprog
  have HDOC := Lib.hid hdoc
  clear hdet hform hprog hdoc
  go_upto_region 10 with fail
  clear c0
  go_wp2_with fail
  refine HPROG.out.mono ?_
  rintro e w3 ⟨u, n3, A3, hR3, rfl, v3, L3, hT3, hlw3, hA3⟩
  obtain ⟨E, ok, rfl⟩ := HFORM.out _ _ _ hR3
  obtain ⟨v3, L3, ρ3, hh3, hk3⟩ := HB1.out.first_prog ⟨v3, L3, hT3, hlw3, hA3⟩
  have HR3 := Lib.hid hR3
  have HH3 := Lib.hid hh3
  have hx3 := (hk3 _ _ HX1.out HXF.out).1
  have HXF3 := Lib.hid (hk3 _ _ HX1.out HXF.out).2
  have HX3 := Lib.hid hx3
  clear hR3 hh3 hk3 hT3 hlw3 hA3 c2 c9 hx3
  unfold entV entC
  go_upto_region 11 with fail
  obtain ⟨w4, hw4⟩ : ∃ w4 : World, w4 = w3.alloc (.cells #[.string E.need, .int .i64 E.cls, .int .i64 E.ten, .int .i64 E.tw, .int .i64 E.inv, .int .i64 E.iw, .int .i64 E.id, .int .i64 E.cost] 25) := ⟨_, rfl⟩
  obtain ⟨b1, hb1⟩ : ∃ b1 : Nat, b1 = w3.heap.size := ⟨_, rfl⟩
  rw [← hw4, ← hb1]
  have HH4 := Lib.hid (show HalfP W P b x (k + 1) n3 next v3 L3 ρ3 dv l A3 w4 by rw [hw4]; exact HH3.out.on box_below)
  have HK4 := Lib.hid (show w4.heap[b1]? = some (entO17 E) by rw [hw4, hb1]; exact fr_alloc_at)
  have HF1 := Lib.hid (show FreeP ρ3 b b1 by rw [hb1]; exact HH3.out.doc.up _ (Nat.le_refl _))
  have hx4 : w4.heap[bx]? = some (.cells (paC y) 27 (0, 0)) := by rw [hw4]; exact fr_alloc_old HX3.out
  have c2 : w4.cell? ⟨bx, 2, none⟩ = some (.int .i64 y.e.cls) := fr_cell_of_heap hx4 rfl
  have c9 : w4.cell? ⟨bx, 9, none⟩ = some (.string y.plat) := fr_cell_of_heap hx4 rfl
  clear hw4 hb1 hx4
  go_wp2_with fail
  refine (HDOC.out _ b dv l _ HH4.out.doc HB1.out.abs).mono ?_
  rintro e w5 ⟨u5, n5, A5, hR5, hd5⟩
  obtain ⟨rfl, rfl, rfl⟩ := HDET.out _ _ _ _ _ _ HR3.out hR5
  obtain ⟨rfl, ⟨dv5, l5, hb5⟩, hk5⟩ := HH4.out.then_doc hd5
  have HB5 := Lib.hid hb5
  have HK5 := Lib.hid (hk5 _ _ HK4.out HF1.out).1
  clear hR5 hd5 hb5 hk5 c2 c9
  unfold entV entC
  go_upto_region 12 with fail
  obtain ⟨w6, hw6⟩ : ∃ w6 : World, w6 = w5.alloc (.cells #[.string E.need, .int .i64 E.cls, .int .i64 E.ten, .int .i64 E.tw, .int .i64 E.inv, .int .i64 E.iw, .int .i64 E.id, .int .i64 E.cost] 25) := ⟨_, rfl⟩
  obtain ⟨b2, hb2⟩ : ∃ b2 : Nat, b2 = w5.heap.size := ⟨_, rfl⟩
  rw [← hw6, ← hb2]
  have HB6 := Lib.hid (show TwinP W P b x (k + 1) w6 by rw [hw6]; exact ⟨_, _, _, _, _, _, HB5.out.on box_below⟩)
  obtain ⟨a0, a1, a2, a3, a4, a5, a6, a7⟩ := ent_cells17 (show w6.heap[b1]? = some (entO17 E) by rw [hw6]; exact fr_alloc_old HK5.out)
  obtain ⟨d0, d1, d2, d3, d4, d5, d6, d7⟩ := ent_cells17 (show w6.heap[b2]? = some (entO17 E) by rw [hw6, hb2]; exact fr_alloc_at)
  clear hw6 hb2
  go_wp2_with (refine wpList_ent_eql (p := E) rfl _ _ rfl rfl rfl ?_)
  go_ret
  exact ⟨ret_bool (by simp), HB6.out⟩
end
theorem does17_any {W wr : World} {P b k : Nat} {x : PX} (y : Pa) (hn : y.e.need.size ≤ 200) (hpl : y.plat.size ≤ 200) (hten : I64 y.e.ten) (hinv : I64 y.e.inv) (hid : I64 y.e.id) (hr : Ready wr) (h : TwinP W P b x k wr) (hk : k ≤ 200) :
    Calls Tryz.prog 16 #[.pointer (some ⟨P, 0, none⟩), .pointer (some ⟨b, 0, none⟩), .agg (paC y)] wr (TwinPPost W P b x (k + 1)) := by
  obtain ⟨next, v, L, ρ, dv, l, h⟩ := h
  by_cases h0 : y.kind = 0
  · exact does17_enter y h0 hn h hk
  · by_cases h1 : y.kind = 1
    · exact does17_leave y h1 h hk
    · by_cases h2 : y.kind = 2
      · exact does17_push y h2 hten hinv hid h hk
      · by_cases h3 : y.kind = 3
        · exact does17_drop y h3 hid h hk
        · exact does17_take y h0 h1 h2 h3 hpl hr h hk
end Go.Proofs.YtdbjihkgafhakaaGreatDoor
