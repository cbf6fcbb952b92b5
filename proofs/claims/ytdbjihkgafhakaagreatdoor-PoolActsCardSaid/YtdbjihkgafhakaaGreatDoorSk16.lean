/-
  How a law's walk becomes its row: a call that hands back true and leaves all that lay there as it was.
  How a law's walk becomes its row, where the row lists utf8's tables: the contract, the witness's world.
  Arguments that came in, opened: structs and slices of structs, whatever the number of fields; what a datum weighs.
  Arguments that came in, opened: a slice of elements of whatever type, element by element.
  Calls of pools that came in.
-/
import Derived.Test.YtdbjihkgafhakaaGreatDoorSk01
import Derived.ProofKit
import Derived.OpenShut
import Derived.SizedLaws
import Derived.Lib.SmallJoins
import Derived.ShutString
import Derived.Test.YtdbjihkgafhakaaGreatDoorCards
import Derived.Test.YtdbjihkgafhakaaGreatDoorTie
import Derived.Deep.DeepHandedRow
import Derived.Shelf.Vars
import Derived.SevenTiedAt
import Derived.Deep.Slices
import Derived.Deep.Fields
import Derived.ChangeSame
import Derived.Test.YtdbjihkgafhakaaGreatDoorSk02
import Derived.Test.YtdbjihkgafhakaaGreatDoorSk15
namespace Go.Proofs.YtdbjihkgafhakaaGreatDoor
open Go.ChangeShapes Go.WideShapes Go.ChangeAt Go.RowKit
theorem own : ownKnob Tryz.prog.godebug = none := by kernel_rfl
theorem laidOut : laidOutB Tryz.prog = true := by kernel_rfl
section
variable {H : Type} {enc : TypeId × Value → H} {P : Program}
theorem trodAll_below (hl : laidOutB P = true) {W W' : World} (hb : Below W.heap.size W W') : ∀ (ts : List TypeId) (vs : List Value) (ds : List (DataW H)) (ps : List MemPlace),
    (∀ t, t ∈ ts → P.readableRec t = true ∧ t < P.types.size) → DataW.TrodAll enc P W 0 (fun _ => true) true ts vs ds ps → (∀ x ∈ ps, x.block < W.heap.size) →
    DataW.TrodAll enc P W' 0 (fun b => decide (b < W.heap.size)) true ts vs ds ps
  | [], vs, ds, ps, _, h, _ => by
    cases vs <;> cases ds <;> simp [DataW.TrodAll] at h ⊢
    exact h
  | t :: ts, vs, ds, ps, hr, h, hlt => by
    obtain ⟨v, vs', d, ds', p, q, rfl, rfl, rfl, h0, h1⟩ := trodAll_cons h
    obtain ⟨hr0, hr1⟩ := hr t (by simp)
    exact trodAll_cons_mk (hb.trod hl hr0 hr1 h0 (fun x hx => hlt x (List.mem_append_left _ hx)))
      (trodAll_below hl hb ts vs' ds' q (fun t ht => hr t (List.mem_cons_of_mem _ ht)) h1 (fun x hx => hlt x (List.mem_append_right _ hx)))
theorem trodAll_len : ∀ {w : World} {base : Nat} {spare : Nat → Bool} {held : Bool} (ts : List TypeId) (vs : List Value) (ds : List (DataW H)) (ps : List MemPlace), DataW.TrodAll enc P w base spare held ts vs ds ps → ds.length = ts.length
  | _, _, _, _, [], vs, ds, ps, h => by cases vs <;> cases ds <;> simp_all [DataW.TrodAll]
  | _, _, _, _, t :: ts, vs, ds, ps, h => by
    obtain ⟨v, vs', d, ds', p, q, rfl, rfl, rfl, h0, h1⟩ := trodAll_cons h
    have := trodAll_len ts vs' ds' q h1
    simp [this]
theorem law_post {f : Func} {s : ChangeSpec} {W W' : World} {args : Array Value} {ds gs : List (DataW H)} {before : List MemPlace} {tb : TypeId}
    (hl : laidOutB P = true) (hr : ∀ t, t ∈ f.params.toList → P.readableRec t = true ∧ t < P.types.size) (hv : s.vars = [])
    (hs : ∀ ds : List (DataW H), ds.length = f.params.size → s.fn H ds = { results := [.lit (.bool true)], args := ds }) (hrt : f.resultTypes = #[tb]) (hb4 : P.underlying tb = some .bool)
    (hW : DataW.Whole enc P f.params.toList s.vars false W args.toList ds gs before) (hb : Below W.heap.size W W') : s.post enc P f false true false false W args (.bool true) W' := by
  have hlt := hW.lt
  have hW' := hW
  obtain ⟨p, q, hA, hV, rfl, _, _⟩ := hW
  rw [hv] at hV
  have hg : gs = [] ∧ q = [] := by
    cases gs with
    | nil => exact ⟨rfl, by simpa [DataW.TrodVars] using hV⟩
    | cons g r => simp [DataW.TrodVars] at hV
  obtain ⟨rfl, rfl⟩ := hg
  have e1 := hs ds (by have := trodAll_len _ _ _ _ hA; simpa using this)
  simp only [List.append_nil] at hlt hW'
  refine ⟨ds, [], p, [], p, [], hW', ?_, ?_, ?_, ?_, fun h => by cases h⟩
  · rw [List.append_nil, e1, hrt]
    exact trodAll_mk1 (shut_bool hb4 _)
  · rw [List.append_nil, e1]
    exact trodAll_below hl hb _ _ _ _ hr hA hlt
  · rw [List.append_nil, e1, hv]
    simp [DataW.TrodVars]
  · exact hb.frame _
theorem okWide_array {W : World} {r : Reach} {b0 : Nat} {t : TypeId} {v : Value} {n : Nat} {e : TypeId} (ht : P.underlying t = some (.array n e)) (h : Value.okWide P W r b0 t v) : ∃ cs, v = .agg cs ∧ cs.size = P.cellsOf t := by
  simp only [Value.okWide, ht] at h
  obtain ⟨cs, h1, h2, _⟩ := h
  exact ⟨cs, h1, h2⟩
theorem open_int_array {W : World} {r : Reach} {b0 base n : Nat} {t e : TypeId} {k : IntKind} {v : Value} {d : DataW H} {p : List MemPlace} {sp : Nat → Bool} {hd : Bool}
    (ht : P.underlying t = some (.array n e)) (he : P.underlying e = some (.int k)) (hc : P.cellsOf e = 1) (hct : P.cellsOf t = n)
    (hv : Value.okWide P W r b0 t v) (h : DataW.Trod enc P W base sp hd t v d p) :
    ∃ xs : List Int, v = .agg (xs.map (Value.int k)).toArray ∧ xs.length = n ∧ ∀ x ∈ xs, (Lit.int k x).wf = true := by
  obtain ⟨cs, rfl, hsz⟩ := okWide_array ht hv
  obtain ⟨fuel, hf⟩ := h
  obtain ⟨ys, m, rfl, hx, hcs, hys, hel⟩ := DataW.trod_array ht hf
  have hlen : cs.toList.length = n := by simpa [hct] using hsz
  have cell : ∀ i (hi : i < n), ∃ x : Int, cs.toList[i]? = some (.int k x) ∧ (Lit.int k x).wf = true := by
    intro i hi
    have h1 := hel i hi
    rw [List.getElem?_eq_getElem (show i < ys.length by omega)] at h1
    obtain ⟨x, hx1, _, hw⟩ := DataW.trod_int he h1
    refine ⟨x, ?_, hw⟩
    rw [hc] at hx1
    simp only [Value.cells, Nat.mul_one] at hx1
    have h2 := congrArg (fun l : List Value => l[0]?) hx1
    simpa using h2
  refine ⟨cs.toList.map fun c => match c with | .int _ x => x | _ => 0, ?_, by simpa using hlen, ?_⟩
  · congr 1
    apply Array.toList_inj.1
    rw [List.map_map]
    apply List.ext_getElem?
    intro i
    by_cases hi : i < n
    · obtain ⟨x, hx1, _⟩ := cell i hi
      simp [hx1] at hx1 ⊢
    · rw [List.getElem?_eq_none (by omega), List.getElem?_eq_none (by simp; simpa using (by omega : cs.toList.length ≤ i))]
  · intro x hx
    obtain ⟨c, hc1, hc2⟩ := List.mem_map.1 hx
    obtain ⟨i, hi, hci⟩ := List.getElem_of_mem hc1
    obtain ⟨y, hy, hw⟩ := cell i (by omega)
    rw [List.getElem?_eq_getElem hi, hci] at hy
    obtain rfl : c = .int k y := Option.some.inj hy
    simpa [← hc2] using hw
theorem reach_le {l : List Nat} (h : l.all (· ≤ reachBytes) = true) : ∀ x ∈ l, x ≤ 140737488351232 := by
  intro x hx
  have h1 := List.all_eq_true.1 h x hx
  exact of_decide_eq_true h1
end
end Go.Proofs.YtdbjihkgafhakaaGreatDoor
namespace Go.Proofs.YtdbjihkgafhakaaGreatDoor
open Go.ChangeShapes Go.WideShapes Go.ChangeAt Go.RowKit
theorem ready_shaped {w : World} (h : w.ShapedOpen Tryz.prog) : Ready w :=
  cell_of_shapedOpen_int (g := 0) (t := 3) (zero := #[.int .i64 0]) h (by decide +kernel) (by kernel_rfl) rfl (by kernel_rfl) (by kernel_rfl) Tryz.underlying3
section
variable {H : Type} {enc : TypeId × Value → H} {P : Program}
theorem law_contract {C : Checked} {f : FuncId} {fn : Func} {s : ChangeSpec} {ts : List TypeId} {tb : TypeId} (hC : C.prog = P)
    (hp : fn.params.toList = ts) (hl : laidOutB P = true) (hr : ∀ t, t ∈ ts → P.readableRec t = true ∧ t < P.types.size) (hv : s.vars = [])
    (hs : ∀ ds : List (DataW H), ds.length = ts.length → s.fn H ds = { results := [.lit (.bool true)], args := ds }) (hrt : fn.resultTypes = #[tb]) (hb4 : P.underlying tb = some .bool)
    {W : World} {base : Nat} {args : Array Value} {ds gs : List (DataW H)} {before : List MemPlace}
    (hval : ∀ (j : Nat) t v, fn.params[j]? = some t → args[j]? = some v → Value.okWide C.prog W .any base t v)
    (hW : DataW.Whole enc C.prog fn.params.toList s.vars false W args.toList ds gs before)
    (hz : (DataW.weightsEach C.prog (fn.params.toList ++ []) (ds ++ gs)).all (· ≤ reachBytes) = true)
    (walk : ∀ (args : List Value) (ps : List MemPlace), (∀ (j : Nat) t v, ts[j]? = some t → args[j]? = some v → Value.okWide P W .any base t v) →
      DataW.TrodAll enc P W 0 (fun _ => true) true ts args ds ps → (∀ x ∈ DataW.weightsEach P ts ds, x ≤ 140737488351232) → Calls P f args.toArray W fun e W' => e = .returned (.bool true) ∧ Below W.heap.size W W') :
    Calls C.prog f args W fun e W' => ∃ v, e = .returned v ∧ s.post enc C.prog fn false true false false W args v W' := by
  subst hC
  have hW' := hW
  obtain ⟨p, q, hA, hV, rfl, _, _⟩ := hW
  have hg : gs = [] := by
    rw [hv] at hV
    cases gs with
    | nil => rfl
    | cons g r => simp [DataW.TrodVars] at hV
  subst hg
  rw [List.append_nil, List.append_nil, hp] at hz
  rw [hp] at hA
  have hval' : ∀ (j : Nat) t v, ts[j]? = some t → args.toList[j]? = some v → Value.okWide C.prog W .any base t v := fun j t v h1 h2 => hval j t v (by rw [← hp] at h1; simpa using h1) (by simpa using h2)
  refine (walk args.toList p hval' hA (reach_le hz)).mono fun e W' ⟨he, hb⟩ => ?_
  exact ⟨_, he, law_post hl (by rw [hp]; exact hr) hv (fun ds h => hs ds (by rw [h, ← hp]; simp)) hrt hb4 hW' hb⟩
end
def flat1 : DataW Unit → List Value
  | .agg l => l.filterMap fun | .lit (.int k x) => some (.int k x) | _ => none
  | _ => []
def flat2 : DataW Unit → List Value
  | .agg l => l.flatMap flat1
  | _ => []
def layIn (cs : Array Value) : Obj → Obj
  | .cells _ t frozen => .cells cs t frozen
  | o => o
noncomputable def laidWorld (os : Os) : World :=
  { World.holding Tryz.prog os ⟨#[], #[], []⟩ with heap := ((World.holding Tryz.prog os ⟨#[], #[], []⟩).heap.modify 2 (layIn (flat2 Rows.laid_unicode_utf8_acceptRanges).toArray)).modify 1 (layIn (flat1 Rows.laid_unicode_utf8_first).toArray) }
theorem laid_met (os : Os) (args : Array Value) : laidMet Tryz.prog Rows.poolTurnRow.laid ((laidWorld os).forCall (fun _ _ => 0) ⟨#[], args, []⟩).memory :=
  laidMet_of_run' 8 (by kernel_rfl) (by kernel_rfl)
end Go.Proofs.YtdbjihkgafhakaaGreatDoor
namespace Go.Proofs.YtdbjihkgafhakaaGreatDoor
open Go.ChangeShapes Go.WideShapes Go.ChangeAt Go.RowKit Go.Deep
section
variable {H : Type} {enc : TypeId × Value → H} {P : Program} {w : World} {base : Nat} {spare : Nat → Bool} {held : Bool}
theorem cell_spot {w : World} {a : Addr} {u : Value} (h : w.cell? a = some u) : a.spot = none := by
  unfold World.cell? at h
  split at h
  · split at h
    · cases h
    · rename_i hs; simpa using hs
  · cases h
theorem weightsAll_mem {e : TypeId} {d : DataW H} {x : Nat} : ∀ {l : List (DataW H)}, d ∈ l → x ∈ d.weights P e → x ∈ DataW.weightsAll P e l
  | [], h, _ => by cases h
  | a :: r, h, hx => by
    rw [DataW.weightsAll]
    rcases List.mem_cons.1 h with rfl | h
    · exact List.mem_append_left _ hx
    · exact List.mem_append_right _ (weightsAll_mem h hx)
theorem weightsEach_mem {t : TypeId} {d : DataW H} {x : Nat} : ∀ {ts : List TypeId} {ds : List (DataW H)} {i : Nat}, ts[i]? = some t → ds[i]? = some d → x ∈ d.weights P t → x ∈ DataW.weightsEach P ts ds
  | [], _, _, h, _, _ => by simp at h
  | _ :: _, [], _, _, h, _ => by simp at h
  | t0 :: ts, d0 :: ds, i, ht, hd, hx => by
    rw [DataW.weightsEach]
    cases i with
    | zero =>
      simp at ht hd
      subst ht hd
      exact List.mem_append_left _ hx
    | succ i => exact List.mem_append_right _ (weightsEach_mem (i := i) (by simpa using ht) (by simpa using hd) hx)
theorem weights_slice_len {t e : TypeId} {l sp : List (DataW H)} (ht : P.underlying t = some (.slice e)) : (l.length + sp.length) * P.bytesOf e ∈ DataW.weights P t (.slice l sp) := by
  simp [DataW.weights, ht]
theorem weights_slice_mem {t e : TypeId} {l sp : List (DataW H)} {d : DataW H} {x : Nat} (ht : P.underlying t = some (.slice e)) (hd : d ∈ l) (hx : x ∈ d.weights P e) : x ∈ DataW.weights P t (.slice l sp) := by
  simp only [DataW.weights, ht]
  exact List.mem_cons_of_mem _ (List.mem_append_left _ (weightsAll_mem hd hx))
end
end Go.Proofs.YtdbjihkgafhakaaGreatDoor
namespace Go.Proofs.YtdbjihkgafhakaaGreatDoor
open Go.ChangeShapes Go.WideShapes Go.ChangeAt Go.RowKit Go.Deep
section
variable {H : Type} {enc : TypeId × Value → H} {P : Program} {w : World} {base : Nat} {spare : Nat → Bool} {held : Bool}
theorem choose_list {α : Type} (n : Nat) (p : Nat → α → Prop) (h : ∀ i, i < n → ∃ x, p i x) : ∃ l : List α, l.length = n ∧ ∀ i x, l[i]? = some x → p i x := by
  induction n with
  | zero => exact ⟨[], rfl, fun i x hx => by simp at hx⟩
  | succ n ih =>
    obtain ⟨l, hl, hp⟩ := ih (fun i hi => h i (by omega))
    obtain ⟨x, hx⟩ := h n (by omega)
    refine ⟨l ++ [x], by simp [hl], fun i y hy => ?_⟩
    rcases Nat.lt_or_ge i n with hi | hi
    · rw [List.getElem?_append_left (by omega)] at hy
      exact hp i y hy
    · have hi2 : i < (l ++ [x]).length := (List.getElem?_eq_some_iff.1 hy).1
      have : i = n := by simp at hi2; omega
      subst this
      rw [List.getElem?_append_right (by omega), hl, Nat.sub_self] at hy
      simp at hy
      subst hy
      exact hx
theorem flat_split {α : Type} (en : α → List Value) (K : Nat) (hK : ∀ x, (en x).length = K) (h0 : 0 < K) {l : List α} {j : Nat} {u : Value} (h : (l.flatMap en)[j]? = some u) : ∃ x, l[j / K]? = some x ∧ (en x)[j % K]? = some u := by
  have hj : j < l.length * K := by rw [← flat_len en K hK l]; exact (List.getElem?_eq_some_iff.1 h).1
  have hd : j / K < l.length := Nat.div_lt_of_lt_mul (by rw [Nat.mul_comm]; exact hj)
  have hm : j % K < K := Nat.mod_lt _ h0
  refine ⟨l[j / K], List.getElem?_eq_getElem hd, ?_⟩
  rw [← flat_at en K hK (j % K) (List.getElem?_eq_getElem hd) hm, Nat.mul_comm, Nat.div_add_mod]
  exact h
theorem open_enc {α : Type} (en : α → List Value) (K : Nat) (hK : ∀ x, (en x).length = K) (h0 : 0 < K) (Q : α → Prop) {t e : TypeId} {fuel : Nat} {v : Value} {x : DataW H × List MemPlace} (ht : P.underlying t = some (.slice e)) (hC : P.cellsOf e = K)
    (dec : ∀ (n : Nat) (cs : List Value) (y : DataW H × List MemPlace), DataW.trod enc P w base spare held n e cs = some y → (∀ z ∈ y.1.weights P e, z ≤ 140737488351232) → ∃ x, cs = en x ∧ Q x)
    (hz : ∀ z ∈ x.1.weights P t, z ≤ 140737488351232) (h : DataW.trod enc P w base spare held fuel t [v] = some x) :
    ∃ (l : List α) (a : Option Addr) (cap : Nat), v = .slice a l.length cap ∧ l.length ≤ cap ∧ (l.length = 0 ∨ l.length * P.bytesOf e ≤ 140737488351232) ∧ (∀ y ∈ l, Q y) ∧
      ∀ (j : Nat) u, (l.flatMap en)[j]? = some u → ∃ g off, a = some ⟨g, off, none⟩ ∧ w.cell? ⟨g, off + j, none⟩ = some u := by
  rcases open_slice ht h with ⟨h1, h2⟩ | ⟨a, len, cap, m, n, D, Pl, hcs, hb, hl, hm, hmm, hx, hi⟩
  · have : v = .slice none 0 0 := by simpa using h1
    subst this
    exact ⟨[], none, 0, rfl, Nat.le_refl _, .inl rfl, (fun y hy => by cases hy), (fun j u hu => by simp at hu)⟩
  · have : v = .slice (some a) len cap := by simpa using hcs
    subst this
    have hlm : len ≤ m := by rw [hmm]; split <;> omega
    have key : ∀ i, i < len → ∃ y : α, Q y ∧ w.cells? base (a.add (i * K)) K = some (en y) := by
      intro i hil
      obtain ⟨cs', hc, ht'⟩ := hi i (by omega)
      rw [hC] at hc
      obtain ⟨y, rfl, hq⟩ := dec n cs' _ ht' (fun z hzz => hz z (by rw [hx]; exact weights_slice_mem ht (d := D i) (List.mem_map.2 ⟨i, List.mem_range.2 hil, rfl⟩) hzz))
      exact ⟨y, hq, hc⟩
    obtain ⟨l, hlen, hp⟩ := choose_list len _ key
    subst hlen
    refine ⟨l, some a, cap, rfl, hl, ?_, fun y hy => ?_, fun j u hu => ?_⟩
    · right
      have h1 := hz _ (by rw [hx]; exact weights_slice_len ht)
      simp only [List.length_map, List.length_range] at h1
      exact Nat.le_trans (Nat.mul_le_mul_right _ (by omega)) h1
    · obtain ⟨i, hi2, rfl⟩ := List.getElem_of_mem hy
      exact (hp i _ (List.getElem?_eq_getElem hi2)).1
    · obtain ⟨y, hy, hu2⟩ := flat_split en K hK h0 hu
      have hc := (hp _ _ hy).2
      obtain ⟨_, hcl, hat⟩ := World.cells?_some hc
      have hm2 : j % K < K := Nat.mod_lt _ h0
      have h1 := hat (j % K) hm2
      rw [hu2] at h1
      obtain ⟨b, off, spot⟩ := a
      have hsp : spot = none := by
        have hl0 : 0 < l.length := Nat.lt_of_le_of_lt (Nat.zero_le _) (List.getElem?_eq_some_iff.1 hy).1
        have hc0 := (hp 0 _ (List.getElem?_eq_getElem hl0)).2
        obtain ⟨_, hcl0, hat0⟩ := World.cells?_some hc0
        have h2 := hat0 0 h0
        rw [List.getElem?_eq_getElem (show 0 < (en l[0]).length by rw [hK]; exact h0)] at h2
        simp only [Nat.zero_mul, Addr.add, if_true] at h2
        exact cell_spot h2
      subst hsp
      refine ⟨b, off, rfl, ?_⟩
      rw [← h1]
      congr 1
      have e : ∀ (o i : Nat), (⟨b, o, none⟩ : Addr).add i = ⟨b, o + i, none⟩ := fun o i => by unfold Addr.add; split <;> simp_all
      rw [e, e, Nat.add_assoc, Nat.mul_comm, Nat.div_add_mod]
end
end Go.Proofs.YtdbjihkgafhakaaGreatDoor
namespace Go.Proofs.YtdbjihkgafhakaaGreatDoor
open Go.ChangeShapes Go.WideShapes Go.ChangeAt Go.RowKit Go.Deep
theorem pa_cellsN : Tryz.prog.cellsOf 27 = 10 := by kernel_rfl
theorem ent_cellsN : Tryz.prog.cellsOf 25 = 8 := by kernel_rfl
theorem o_str : Tryz.prog.cellsOf 9 = 1 := by kernel_rfl
theorem o_int : Tryz.prog.cellsOf 3 = 1 := by kernel_rfl
theorem x3_cells : Tryz.prog.cellsOf 22 = 3 := by kernel_rfl
def EntOk (e : Ent) : Prop := I64 e.cls ∧ I64 e.ten ∧ I64 e.tw ∧ I64 e.inv ∧ I64 e.iw ∧ I64 e.id ∧ I64 e.cost
theorem field_of {fs : Array Field} {l : List (TypeId × Nat)} (h : fs.toList.map (fun f => (f.type, f.offset)) = l) {j : Nat} {t : TypeId} {o : Nat} (ht : l[j]? = some (t, o)) : ∃ f, fs[j]? = some f ∧ f.type = t ∧ f.offset = o := by
  rw [← h, List.getElem?_map] at ht
  cases hj : fs.toList[j]? with
  | none => rw [hj] at ht; cases ht
  | some f =>
    rw [hj] at ht
    simp at ht
    exact ⟨f, by simpa using hj, ht.1, ht.2⟩
theorem ent_fields : ∃ fs, Tryz.prog.underlying 25 = some (.struct fs) ∧ fs.toList.map (fun f => (f.type, f.offset)) = [(9, 0), (3, 1), (3, 2), (3, 3), (3, 4), (3, 5), (3, 6), (3, 7)] := ⟨_, Tryz.underlying25, by kernel_rfl⟩
theorem pa_fields : ∃ fs, Tryz.prog.underlying 27 = some (.struct fs) ∧ fs.toList.map (fun f => (f.type, f.offset)) = [(3, 0), (25, 1), (9, 9)] := ⟨_, Tryz.underlying27, by kernel_rfl⟩
def encEnt (x : Ent) : List Value := [.string x.need, .int .i64 x.cls, .int .i64 x.ten, .int .i64 x.tw, .int .i64 x.inv, .int .i64 x.iw, .int .i64 x.id, .int .i64 x.cost]
section
variable {H : Type} {enc : TypeId × Value → H} {W : World} {base : Nat} {sp : Nat → Bool} {hd : Bool}
theorem dec_i64 {n : Nat} {cs : List Value} {y : Option (DataW H × List MemPlace)} {ys : DataW H × List MemPlace} (h : DataW.trod enc Tryz.prog W base sp hd n 3 cs = y) (hy : y = some ys) : ∃ k : Int, cs = [.int .i64 k] ∧ I64 k := by
  subst hy
  obtain ⟨k, e, _, hw⟩ := DataW.trod_int Tryz.underlying3 h
  exact ⟨k, e, hw⟩
theorem dec_str {n : Nat} {cs : List Value} {y : Option (DataW H × List MemPlace)} {ys : DataW H × List MemPlace} (h : DataW.trod enc Tryz.prog W base sp hd n 9 cs = y) (hy : y = some ys) : ∃ s : ByteArray, cs = [.string s] := by
  subst hy
  obtain ⟨s, e, rfl, _⟩ := DataW.trod_string Tryz.underlying9 h
  exact ⟨s, e⟩
set_option maxRecDepth 100000 in
theorem dec_ent {n : Nat} {cs : List Value} {y : Option (DataW H × List MemPlace)} {ys : DataW H × List MemPlace} (h : DataW.trod enc Tryz.prog W base sp hd n 25 cs = y) (hy : y = some ys) : ∃ x : Ent, cs = encEnt x ∧ EntOk x := by
  subst hy
  obtain ⟨fs, hu, hfs⟩ := ent_fields
  obtain ⟨zs, m, _, hy, hlen, hyl, hf⟩ := DataW.trod_struct hu h
  have hsz : fs.size = 8 := by have := congrArg List.length hfs; simpa using this
  rw [ent_cellsN] at hlen
  have hzs (j : Nat) (hj : j < 8) : zs[j]? = some (zs[j]'(by omega)) := List.getElem?_eq_getElem (by omega)
  obtain ⟨u0, u1, u2, u3, u4, u5, u6, u7, rfl⟩ : ∃ u0 u1 u2 u3 u4 u5 u6 u7, cs = [u0, u1, u2, u3, u4, u5, u6, u7] := by
    match cs, hlen with
    | [u0, u1, u2, u3, u4, u5, u6, u7], _ => exact ⟨_, _, _, _, _, _, _, _, rfl⟩
  have key (j : Nat) (t : TypeId) (o : Nat) (ht : ([(9, 0), (3, 1), (3, 2), (3, 3), (3, 4), (3, 5), (3, 6), (3, 7)] : List (TypeId × Nat))[j]? = some (t, o)) (h1 : Tryz.prog.cellsOf t = 1) : DataW.trod enc Tryz.prog W base sp hd m t (([u0, u1, u2, u3, u4, u5, u6, u7].drop o).take 1) = zs[j]? := by
    obtain ⟨f, hj, rfl, rfl⟩ := field_of hfs ht
    have := hf j f hj
    rw [h1] at this
    exact this
  obtain ⟨k0, e0⟩ := dec_str (key 0 _ _ rfl o_str) (hzs 0 (by omega))
  obtain ⟨k1, e1, w1⟩ := dec_i64 (key 1 _ _ rfl o_int) (hzs 1 (by omega))
  obtain ⟨k2, e2, w2⟩ := dec_i64 (key 2 _ _ rfl o_int) (hzs 2 (by omega))
  obtain ⟨k3, e3, w3⟩ := dec_i64 (key 3 _ _ rfl o_int) (hzs 3 (by omega))
  obtain ⟨k4, e4, w4⟩ := dec_i64 (key 4 _ _ rfl o_int) (hzs 4 (by omega))
  obtain ⟨k5, e5, w5⟩ := dec_i64 (key 5 _ _ rfl o_int) (hzs 5 (by omega))
  obtain ⟨k6, e6, w6⟩ := dec_i64 (key 6 _ _ rfl o_int) (hzs 6 (by omega))
  obtain ⟨k7, e7, w7⟩ := dec_i64 (key 7 _ _ rfl o_int) (hzs 7 (by omega))
  simp at e0 e1 e2 e3 e4 e5 e6 e7
  subst e0 e1 e2 e3 e4 e5 e6 e7
  exact ⟨⟨k0, k1, k2, k3, k4, k5, k6, k7⟩, rfl, w1, w2, w3, w4, w5, w6, w7⟩
set_option maxRecDepth 100000 in
theorem dec_pa {n : Nat} {cs : List Value} {y : DataW H × List MemPlace} (h : DataW.trod enc Tryz.prog W base sp hd n 27 cs = some y) : ∃ x : Pa, cs = encPa x ∧ EntOk x.e := by
  obtain ⟨fs, hu, hfs⟩ := pa_fields
  obtain ⟨zs, m, _, hy, hlen, hyl, hf⟩ := DataW.trod_struct hu h
  have hsz : fs.size = 3 := by have := congrArg List.length hfs; simpa using this
  rw [pa_cellsN] at hlen
  have hzs (j : Nat) (hj : j < 3) : zs[j]? = some (zs[j]'(by omega)) := List.getElem?_eq_getElem (by omega)
  obtain ⟨u0, u1, u2, u3, u4, u5, u6, u7, u8, u9, rfl⟩ : ∃ u0 u1 u2 u3 u4 u5 u6 u7 u8 u9, cs = [u0, u1, u2, u3, u4, u5, u6, u7, u8, u9] := by
    match cs, hlen with
    | [u0, u1, u2, u3, u4, u5, u6, u7, u8, u9], _ => exact ⟨_, _, _, _, _, _, _, _, _, _, rfl⟩
  have key (j : Nat) (t : TypeId) (o k : Nat) (ht : ([(3, 0), (25, 1), (9, 9)] : List (TypeId × Nat))[j]? = some (t, o)) (h1 : Tryz.prog.cellsOf t = k) : DataW.trod enc Tryz.prog W base sp hd m t (([u0, u1, u2, u3, u4, u5, u6, u7, u8, u9].drop o).take k) = zs[j]? := by
    obtain ⟨f, hj, rfl, rfl⟩ := field_of hfs ht
    have := hf j f hj
    rw [h1] at this
    exact this
  obtain ⟨k0, e0, w0⟩ := dec_i64 (key 0 _ _ 1 rfl o_int) (hzs 0 (by omega))
  obtain ⟨x, e1, hx⟩ := dec_ent (key 1 _ _ 8 rfl ent_cellsN) (hzs 1 (by omega))
  obtain ⟨s, e2⟩ := dec_str (key 2 _ _ 1 rfl o_str) (hzs 2 (by omega))
  simp at e0 e2
  subst e0 e2
  have e1' : [u1, u2, u3, u4, u5, u6, u7, u8] = encEnt x := e1
  unfold encEnt at e1'
  simp only [List.cons.injEq, and_true] at e1'
  obtain ⟨rfl, rfl, rfl, rfl, rfl, rfl, rfl, rfl⟩ := e1'
  exact ⟨⟨k0, x, s⟩, rfl, hx⟩
theorem encPa_len (x : Pa) : (encPa x).length = 10 := rfl
theorem open_pas {fuel : Nat} {v : Value} {x : DataW H × List MemPlace} (hz : ∀ z ∈ x.1.weights Tryz.prog 23, z ≤ 140737488351232) (h : DataW.trod enc Tryz.prog W base sp hd fuel 23 [v] = some x) : ∃ l, PasAt W v l ∧ ∀ y ∈ l, EntOk y.e := by
  obtain ⟨l, a, cap, hv, _, _, hq, hc⟩ := open_enc encPa 10 encPa_len (by decide) (fun y => EntOk y.e) Tryz.underlying23 pa_cellsN (fun n cs y h1 _ => dec_pa h1) hz h
  refine ⟨l, ⟨a, cap, hv, fun k y hy => ?_⟩, hq⟩
  have key : ∀ i u, (encPa y)[i]? = some u → (l.flatMap encPa)[k * 10 + i]? = some u := fun i u hu => by
    have hi : i < 10 := by rw [← encPa_len y]; exact (List.getElem?_eq_some_iff.1 hu).1
    rw [flat_at encPa 10 encPa_len i hy hi]
    exact hu
  obtain ⟨g, off, rfl, _⟩ := hc _ _ (key 0 _ rfl)
  refine ⟨g, off, rfl, fun i u hu => ?_⟩
  obtain ⟨g', off', he, h0⟩ := hc _ _ (key i u hu)
  cases he
  rw [Nat.add_assoc]
  exact h0
end
end Go.Proofs.YtdbjihkgafhakaaGreatDoor
