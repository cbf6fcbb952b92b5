/-
  How a law's walk becomes its row: a call that hands back true and leaves all that lay there as it was.
  How a law's walk becomes its row, where the row lists errors.errorType by its type's handle, and utf8's tables.
  A WORLD FOR THE WITNESS : the settled one, utf8's tables and errors.errorType laid.
  Arguments that came in, opened: structs and slices of structs, whatever the number of fields; what a datum weighs.
  A configuration that came in, opened.
-/
import Derived.Test.YtaaomhjgolmakaaGreatDoorSr01
import Derived.ProofKit
import Derived.OpenShut
import Derived.SizedLaws
import Derived.Lib.SmallJoins
import Derived.ShutString
import Derived.Test.YtaaomhjgolmakaaGreatDoorRows
import Derived.Deep.DeepHandedRow
import Derived.Shelf.Vars
import Derived.SevenTiedAt
import Derived.LaidLaws
import Derived.LaidHandle
import Derived.Test.YtaaomhjgolmakaaGreatDoorSr10
import Derived.Test.YtaaomhjgolmakaaGreatDoorSr07
import Derived.Deep.Slices
import Derived.Deep.Fields
import Derived.ChangeSame
import Derived.Test.YtaaomhjgolmakaaGreatDoorSr08
namespace Go.Proofs.YtaaomhjgolmakaaGreatDoor
open Go.ChangeShapes Go.WideShapes Go.ChangeAt Go.RowKit
theorem own : ownKnob Tryz.prog.godebug = none := by kernel_rfl
def loK (P : Program) (a n : Nat) : Bool := (List.range' a n).all fun t => !(decide (t < P.types.size)) || rowFine P t
theorem loK_at {P : Program} {a n t : Nat} (h : loK P a n = true) (h1 : a ≤ t) (h2 : t < a + n) (h3 : t < P.types.size) : rowFine P t = true := by
  have := List.all_eq_true.1 h t (List.mem_range'_1.2 ⟨h1, h2⟩)
  simpa [h3] using this
theorem lo0 : loK Tryz.prog 0 100 = true := by kernel_rfl
theorem lo1 : loK Tryz.prog 100 100 = true := by kernel_rfl
theorem lo2 : loK Tryz.prog 200 100 = true := by kernel_rfl
theorem lo3 : loK Tryz.prog 300 100 = true := by kernel_rfl
theorem lo4 : loK Tryz.prog 400 100 = true := by kernel_rfl
theorem lo5 : loK Tryz.prog 500 100 = true := by kernel_rfl
theorem lo6 : loK Tryz.prog 600 100 = true := by kernel_rfl
theorem lo7 : loK Tryz.prog 700 100 = true := by kernel_rfl
theorem lo8 : loK Tryz.prog 800 100 = true := by kernel_rfl
theorem lo9 : loK Tryz.prog 900 100 = true := by kernel_rfl
theorem lo10 : loK Tryz.prog 1000 100 = true := by kernel_rfl
theorem lo11 : loK Tryz.prog 1100 100 = true := by kernel_rfl
theorem lo_size : Nat.ble Tryz.prog.types.size 1200 = true := by kernel_rfl
theorem lo_g : Tryz.prog.globals.all (fun g => decide (g.type < Tryz.prog.types.size)) = true := by kernel_rfl
theorem lo_f : Tryz.prog.funcs.all (fun f => f.params.all fun t => decide (t < Tryz.prog.types.size)) = true := by kernel_rfl
theorem laidOut : laidOutB Tryz.prog = true := by
  have hs := Nat.le_of_ble_eq_true lo_size
  have h : (List.range Tryz.prog.types.size).all (rowFine Tryz.prog) = true := List.all_eq_true.2 fun t ht => by
    have ht := List.mem_range.1 ht
    have ht2 : t < 1200 := Nat.lt_of_lt_of_le ht hs
    rcases Nat.lt_or_ge t 100 with h | h0
    · exact loK_at lo0 (Nat.zero_le _) (by omega) ht
    rcases Nat.lt_or_ge t 200 with h | h1
    · exact loK_at lo1 (by omega) (by omega) ht
    rcases Nat.lt_or_ge t 300 with h | h2
    · exact loK_at lo2 (by omega) (by omega) ht
    rcases Nat.lt_or_ge t 400 with h | h3
    · exact loK_at lo3 (by omega) (by omega) ht
    rcases Nat.lt_or_ge t 500 with h | h4
    · exact loK_at lo4 (by omega) (by omega) ht
    rcases Nat.lt_or_ge t 600 with h | h5
    · exact loK_at lo5 (by omega) (by omega) ht
    rcases Nat.lt_or_ge t 700 with h | h6
    · exact loK_at lo6 (by omega) (by omega) ht
    rcases Nat.lt_or_ge t 800 with h | h7
    · exact loK_at lo7 (by omega) (by omega) ht
    rcases Nat.lt_or_ge t 900 with h | h8
    · exact loK_at lo8 (by omega) (by omega) ht
    rcases Nat.lt_or_ge t 1000 with h | h9
    · exact loK_at lo9 (by omega) (by omega) ht
    rcases Nat.lt_or_ge t 1100 with h | h10
    · exact loK_at lo10 (by omega) (by omega) ht
    rcases Nat.lt_or_ge t 1200 with h | h11
    · exact loK_at lo11 (by omega) (by omega) ht
    omega
  unfold laidOutB
  rw [h, lo_g, lo_f]
  rfl
section
variable {H : Type} {enc : TypeId × Value → H} {P : Program}
theorem trodAll_below (hl : laidOutB P = true) {W W' : World} (hb : Below W.heap.size W W') : ∀ (ts : List TypeId) (vs : List Value) (ds : List (DataW H)) (ps : List MemPlace),
    (∀ t, t ∈ ts → P.readableRec t = true ∧ t < P.types.size) → DataW.TrodAll enc P W 0 (fun _ => true) true ts vs ds ps → (∀ x ∈ ps, x.block < W.heap.size) →
    DataW.TrodAll enc P W' 0 (fun b => decide (b < W.heap.size)) true ts vs ds ps
  | [], vs, ds, ps, _, h, _ => by
    cases vs <;> cases ds <;> simp [DataW.TrodAll] at h ⊢
    exact h
  | t :: ts, vs, ds, ps, hr, h, hlt => by
    obtain ⟨v, vs', d, ds', p, q, rfl, rfl, rfl, h0, h1⟩ := trodAll_cons h
    obtain ⟨hr0, hr1⟩ := hr t (by simp)
    exact trodAll_cons_mk (hb.trod hl hr0 hr1 h0 (fun x hx => hlt x (List.mem_append_left _ hx)))
      (trodAll_below hl hb ts vs' ds' q (fun t ht => hr t (List.mem_cons_of_mem _ ht)) h1 (fun x hx => hlt x (List.mem_append_right _ hx)))
theorem trodAll_len : ∀ {w : World} {base : Nat} {spare : Nat → Bool} {held : Bool} (ts : List TypeId) (vs : List Value) (ds : List (DataW H)) (ps : List MemPlace), DataW.TrodAll enc P w base spare held ts vs ds ps → ds.length = ts.length
  | _, _, _, _, [], vs, ds, ps, h => by cases vs <;> cases ds <;> simp_all [DataW.TrodAll]
  | _, _, _, _, t :: ts, vs, ds, ps, h => by
    obtain ⟨v, vs', d, ds', p, q, rfl, rfl, rfl, h0, h1⟩ := trodAll_cons h
    have := trodAll_len ts vs' ds' q h1
    simp [this]
theorem law_post {f : Func} {s : ChangeSpec} {W W' : World} {args : Array Value} {ds gs : List (DataW H)} {before : List MemPlace} {tb : TypeId}
    (hl : laidOutB P = true) (hr : ∀ t, t ∈ f.params.toList → P.readableRec t = true ∧ t < P.types.size) (hv : s.vars = [])
    (hs : ∀ ds : List (DataW H), ds.length = f.params.size → s.fn H ds = { results := [.lit (.bool true)], args := ds }) (hrt : f.resultTypes = #[tb]) (hb4 : P.underlying tb = some .bool)
    (hW : DataW.Whole enc P f.params.toList s.vars false W args.toList ds gs before) (hb : Below W.heap.size W W') : s.post enc P f false true false false W args (.bool true) W' := by
  have hlt := hW.lt
  have hW' := hW
  obtain ⟨p, q, hA, hV, rfl, _, _⟩ := hW
  rw [hv] at hV
  have hg : gs = [] ∧ q = [] := by
    cases gs with
    | nil => exact ⟨rfl, by simpa [DataW.TrodVars] using hV⟩
    | cons g r => simp [DataW.TrodVars] at hV
  obtain ⟨rfl, rfl⟩ := hg
  have e1 := hs ds (by have := trodAll_len _ _ _ _ hA; simpa using this)
  simp only [List.append_nil] at hlt hW'
  refine ⟨ds, [], p, [], p, [], hW', ?_, ?_, ?_, ?_, fun h => by cases h⟩
  · rw [List.append_nil, e1, hrt]
    exact trodAll_mk1 (shut_bool hb4 _)
  · rw [List.append_nil, e1]
    exact trodAll_below hl hb _ _ _ _ hr hA hlt
  · rw [List.append_nil, e1, hv]
    simp [DataW.TrodVars]
  · exact hb.frame _
theorem reach_le {l : List Nat} (h : l.all (· ≤ reachBytes) = true) : ∀ x ∈ l, x ≤ 140737488351232 := by
  intro x hx
  have h1 := List.all_eq_true.1 h x hx
  exact of_decide_eq_true h1
end
end Go.Proofs.YtaaomhjgolmakaaGreatDoor
namespace Go.Proofs.YtaaomhjgolmakaaGreatDoor
open Go.ChangeShapes Go.WideShapes Go.ChangeAt Go.RowKit
section
variable {H : Type} {enc : TypeId × Value → H} {P : Program}
theorem law_contract {C : Checked} {f : FuncId} {fn : Func} {s : ChangeSpec} {ts : List TypeId} {tb : TypeId} (hC : C.prog = P)
    (hp : fn.params.toList = ts) (hl : laidOutB P = true) (hr : ∀ t, t ∈ ts → P.readableRec t = true ∧ t < P.types.size) (hv : s.vars = [])
    (hs : ∀ ds : List (DataW H), ds.length = ts.length → s.fn H ds = { results := [.lit (.bool true)], args := ds }) (hrt : fn.resultTypes = #[tb]) (hb4 : P.underlying tb = some .bool)
    {W : World} {base : Nat} {args : Array Value} {ds gs : List (DataW H)} {before : List MemPlace}
    (hval : ∀ (j : Nat) t v, fn.params[j]? = some t → args[j]? = some v → Value.okWide C.prog W .any base t v)
    (hW : DataW.Whole enc C.prog fn.params.toList s.vars false W args.toList ds gs before)
    (hz : (DataW.weightsEach C.prog (fn.params.toList ++ []) (ds ++ gs)).all (· ≤ reachBytes) = true)
    (walk : ∀ (args : List Value) (ps : List MemPlace), (∀ (j : Nat) t v, ts[j]? = some t → args[j]? = some v → Value.okWide P W .any base t v) →
      DataW.TrodAll enc P W 0 (fun _ => true) true ts args ds ps → (∀ x ∈ DataW.weightsEach P ts ds, x ≤ 140737488351232) → Calls P f args.toArray W fun e W' => e = .returned (.bool true) ∧ Below W.heap.size W W') :
    Calls C.prog f args W fun e W' => ∃ v, e = .returned v ∧ s.post enc C.prog fn false true false false W args v W' := by
  subst hC
  have hW' := hW
  obtain ⟨p, q, hA, hV, rfl, _, _⟩ := hW
  have hg : gs = [] := by
    rw [hv] at hV
    cases gs with
    | nil => rfl
    | cons g r => simp [DataW.TrodVars] at hV
  subst hg
  rw [List.append_nil, List.append_nil, hp] at hz
  rw [hp] at hA
  have hval' : ∀ (j : Nat) t v, ts[j]? = some t → args.toList[j]? = some v → Value.okWide C.prog W .any base t v := fun j t v h1 h2 => hval j t v (by rw [← hp] at h1; simpa using h1) (by simpa using h2)
  refine (walk args.toList p hval' hA (reach_le hz)).mono fun e W' ⟨he, hb⟩ => ?_
  exact ⟨_, he, law_post hl (by rw [hp]; exact hr) hv (fun ds h => hs ds (by rw [h, ← hp]; simp)) hrt hb4 hW' hb⟩
end
theorem handle_cell {P : Program} {laid : List (String × DataW Unit)} {W : World} {d : DataW Unit} {name : List UInt8} {u ty0 G : Nat} (h : laidMetH P laid W) (hm : ("errors.errorType", d) ∈ laid) (hd : d.handleName? = some name) (hf : d.funcsIn? = none)
    (hrt : (P.cutTypes.find? (·.1 == "internal/reflectlite.rtype")).map (·.2) = some u) (hone : ((List.range P.types.size).filter fun t => P.rowNamed t name) = [ty0]) (hg : P.globalNamed "errors.errorType" = some G) : W.cell? ⟨G, 0, none⟩ = some (.iface u (.agg #[typeHandle P ty0])) := by
  have hin : ("errors.errorType", d) ∈ laid.filter fun x => x.2.handleName?.isSome := List.mem_filter.2 ⟨hm, by simp [hd]⟩
  have hh : handlesMet P (laid.filter fun x => x.2.handleName?.isSome) W := by
    unfold laidMetH at h
    generalize hfl : (laid.filter fun x => x.2.handleName?.isSome) = fl at h hin
    cases fl with
    | nil => cases hin
    | cons x xs => exact h.2
  have h1 := hh _ hin
  simp only [hf] at h1
  obtain ⟨name', u', ty, e1, e2, e3, e4, e5⟩ := h1
  obtain rfl := Option.some.inj (hd.symm.trans e1)
  obtain rfl := Option.some.inj (hrt.symm.trans e2)
  have hm : ty ∈ (List.range P.types.size).filter fun t => P.rowNamed t name := List.mem_filter.2 ⟨List.mem_range.2 e3, e4⟩
  rw [hone] at hm
  obtain rfl := List.mem_singleton.1 hm
  simpa using World.var?_cell hg e5 0
def flat1 : DataW Unit → List Value
  | .agg l => l.filterMap fun | .lit (.int k x) => some (.int k x) | _ => none
  | _ => []
def flat2 : DataW Unit → List Value
  | .agg l => l.flatMap flat1
  | _ => []
def layIn (cs : Array Value) : Obj → Obj
  | .cells _ t frozen => .cells cs t frozen
  | o => o
end Go.Proofs.YtaaomhjgolmakaaGreatDoor
namespace Go.Proofs.YtaaomhjgolmakaaGreatDoor
open Go.ChangeShapes Go.WideShapes Go.ChangeAt Go.RowKit
noncomputable def laidWorld (os : Os) : World :=
  { World.holding Tryz.prog os ⟨#[], #[], []⟩ with heap := (((World.holding Tryz.prog os ⟨#[], #[], []⟩).heap.modify 3 (layIn (flat2 Rows.laid_unicode_utf8_acceptRanges).toArray)).modify 2 (layIn (flat1 Rows.laid_unicode_utf8_first).toArray)).modify 0 (layIn #[Ev.etV]) }
theorem laid_met (os : Os) (args : Array Value) : laidMetH Tryz.prog Rows.serviceRecordsRow.laid ((laidWorld os).forCall (fun _ _ => 0) ⟨#[], args, []⟩).memory :=
  laidMetH_of_parts (laidMet_of_run' 8 (by kernel_rfl) (by kernel_rfl)) (by kernel_rfl)
theorem one_error : ((List.range Tryz.prog.types.size).filter fun t => Tryz.prog.rowNamed t [101, 114, 114, 111, 114]) = [84] := by kernel_rfl
theorem et_is : (Value.iface 482 (.agg #[typeHandle Tryz.prog 84])) = Ev.etV := by kernel_rfl
theorem et_cell {W : World} (hL : laidMetH Tryz.prog Rows.serviceRecordsRow.laid W) : W.cell? ⟨0, 0, none⟩ = some Ev.etV :=
  (handle_cell (P := Tryz.prog) hL (d := Rows.laid_errors_errorType) (name := [101, 114, 114, 111, 114]) (u := 482) (ty0 := 84) (G := 0) (by simp [Rows.serviceRecordsRow]) rfl rfl (by kernel_rfl) one_error (by kernel_rfl)).trans (congrArg some et_is)
end Go.Proofs.YtaaomhjgolmakaaGreatDoor
namespace Go.Proofs.YtaaomhjgolmakaaGreatDoor
open Go.ChangeShapes Go.WideShapes Go.ChangeAt Go.RowKit Go.Deep
section
variable {H : Type} {enc : TypeId × Value → H} {P : Program} {w : World} {base : Nat} {spare : Nat → Bool} {held : Bool}
theorem cell_spot {w : World} {a : Addr} {u : Value} (h : w.cell? a = some u) : a.spot = none := by
  unfold World.cell? at h
  split at h
  · split at h
    · cases h
    · rename_i hs; simpa using hs
  · cases h
def FieldAt (enc : TypeId × Value → H) (P : Program) (w : World) (base : Nat) (spare : Nat → Bool) (held : Bool) (n : Nat) (t : TypeId) (v : Value) (y : DataW H × List MemPlace) : Prop := DataW.trod enc P w base spare held n t [v] = some y
theorem open_struct {r : Reach} {b0 : Nat} {t : TypeId} {fs : Array Field} {v : Value} {d : DataW H} {p : List MemPlace} (hs : P.underlying t = some (.struct fs)) (hone : oneCellFields P fs = true) (hC : P.cellsOf t = fs.size)
    (hv : Value.okWide P w r b0 t v) (h : DataW.Trod enc P w base spare held t v d p) :
    ∃ (cs : Array Value) (ys : List (DataW H × List MemPlace)) (n : Nat), v = .agg cs ∧ d = .agg (ys.map (·.1)) ∧ p = ys.flatMap (·.2) ∧ cs.size = fs.size ∧ ys.length = fs.size ∧
      ∀ (j : Nat) (f : Field), fs[j]? = some f → ∃ (u : Value) (y : DataW H × List MemPlace), cs[j]? = some u ∧ ys[j]? = some y ∧ FieldAt enc P w base spare held n f.type u y := by
  obtain ⟨cs, rfl, hsz⟩ := okWide_struct hs hv
  obtain ⟨fuel, hf⟩ := h
  obtain ⟨ys, n, _, hx, _, hlen, hg⟩ := DataW.trod_struct hs hf
  simp only [Prod.mk.injEq] at hx
  refine ⟨cs, ys, n, rfl, hx.1, hx.2, hsz.trans hC, hlen, fun j f hj => ?_⟩
  obtain ⟨ho, hk⟩ := hone_of hone j f hj
  have hjl : j < fs.size := (Array.getElem?_eq_some_iff.1 hj).1
  have hjc : j < cs.size := by omega
  have hjy : j < ys.length := by omega
  have h1 := hg j f hj
  rw [ho, hk] at h1
  have e1 : ((Value.agg cs).cells.toList.drop j).take 1 = [cs[j]] := by
    simp only [Value.cells]
    rw [List.drop_eq_getElem_cons (by simpa using hjc)]
    simp
  rw [show ∀ l : List Value, l = (Value.agg cs).cells.toList → (l.drop j).take 1 = [cs[j]] from fun l hl => by rw [hl]; exact e1] at h1
  · have e2 : ys[j]? = some ys[j] := List.getElem?_eq_getElem hjy
    exact ⟨cs[j], ys[j], Array.getElem?_eq_getElem hjc, e2, h1.trans e2⟩
  · rfl
theorem open_rows {t e : TypeId} {fs : Array Field} {fuel : Nat} {v : Value} {x : DataW H × List MemPlace} (ht : P.underlying t = some (.slice e)) (he : P.underlying e = some (.struct fs))
    (hone : oneCellFields P fs = true) (hC : P.cellsOf e = fs.size) (h0 : 0 < fs.size) (h : FieldAt enc P w base spare held fuel t v x) :
    ∃ (a : Option Addr) (len cap : Nat) (D : Nat → DataW H), v = .slice a len cap ∧ (len = 0 ∨ ∃ sp : List (DataW H), x.1 = .slice ((List.range len).map D) sp) ∧ len ≤ cap ∧
      ∀ i, i < len → ∃ (b off : Nat) (ys : List (DataW H × List MemPlace)) (n : Nat), a = some ⟨b, off, none⟩ ∧ D i = .agg (ys.map (·.1)) ∧ ys.length = fs.size ∧
        ∀ (j : Nat) (f : Field), fs[j]? = some f → ∃ (u : Value) (y : DataW H × List MemPlace), w.cell? ⟨b, off + (i * fs.size + j), none⟩ = some u ∧ ys[j]? = some y ∧ FieldAt enc P w base spare held n f.type u y := by
  rcases open_slice ht h with ⟨h1, h2⟩ | ⟨a, len, cap, m, n, D, Pl, hcs, hb, hl, hm, hmm, hx, hi⟩
  · have : v = .slice none 0 0 := by simpa using h1
    subst this
    exact ⟨none, 0, 0, fun _ => .nil, rfl, .inl rfl, Nat.le_refl _, fun i hi => absurd hi (by omega)⟩
  · have : v = .slice (some a) len cap := by simpa using hcs
    subst this
    have hlm : len ≤ m := by rw [hmm]; split <;> omega
    refine ⟨some a, len, cap, D, rfl, .inr ⟨_, by rw [hx]⟩, hl, fun i hil => ?_⟩
    obtain ⟨cs', hc, ht'⟩ := hi i (by omega)
    rw [hC] at hc
    obtain ⟨ys, n', hn', hy, hlen, hyl, hf⟩ := DataW.trod_struct he ht'
    obtain ⟨_, hcl, hat⟩ := World.cells?_some hc
    simp only [Prod.mk.injEq] at hy
    have key : ∀ (j : Nat) (f : Field), fs[j]? = some f → ∃ (u : Value) (y : DataW H × List MemPlace), w.cell? (a.add (i * fs.size + j)) = some u ∧ ys[j]? = some y ∧ FieldAt enc P w base spare held n' f.type u y := by
      intro j f hj
      obtain ⟨ho, hk⟩ := hone_of hone j f hj
      have hjl : j < fs.size := (Array.getElem?_eq_some_iff.1 hj).1
      have hcell := hat j hjl
      have hv : cs'[j]? = some (cs'[j]'(by omega)) := List.getElem?_eq_getElem (by omega)
      have h1 := hf j f hj
      rw [ho, hk] at h1
      have hone' : (cs'.drop j).take 1 = [cs'[j]'(by omega)] := by
        rw [List.drop_eq_getElem_cons (by omega)]
        rfl
      rw [hone'] at h1
      have hys : ys[j]? = some (ys[j]'(by omega)) := List.getElem?_eq_getElem (by omega)
      refine ⟨_, _, ?_, hys, h1.trans hys⟩
      rw [← Go.Deep.add_add, hcell, hv]
    obtain ⟨b, off, spot⟩ := a
    have hsp : spot = none := by
      obtain ⟨cs0, hc0, _⟩ := hi 0 (by omega)
      rw [hC] at hc0
      obtain ⟨_, hcl0, hat0⟩ := World.cells?_some hc0
      have h1 := hat0 0 h0
      rw [List.getElem?_eq_getElem (show 0 < cs0.length by omega)] at h1
      simp only [Nat.zero_mul, Addr.add, if_true] at h1
      exact cell_spot h1
    subst hsp
    refine ⟨b, off, ys, n', rfl, hy.1, hyl, fun j f hj => ?_⟩
    obtain ⟨u, y, hcell, hy', hf'⟩ := key j f hj
    refine ⟨u, y, ?_, hy', hf'⟩
    rw [← hcell]
    congr 1
    unfold Addr.add
    split <;> simp_all
theorem weightsAll_mem {e : TypeId} {d : DataW H} {x : Nat} : ∀ {l : List (DataW H)}, d ∈ l → x ∈ d.weights P e → x ∈ DataW.weightsAll P e l
  | [], h, _ => by cases h
  | a :: r, h, hx => by
    rw [DataW.weightsAll]
    rcases List.mem_cons.1 h with rfl | h
    · exact List.mem_append_left _ hx
    · exact List.mem_append_right _ (weightsAll_mem h hx)
theorem weightsEach_mem {t : TypeId} {d : DataW H} {x : Nat} : ∀ {ts : List TypeId} {ds : List (DataW H)} {i : Nat}, ts[i]? = some t → ds[i]? = some d → x ∈ d.weights P t → x ∈ DataW.weightsEach P ts ds
  | [], _, _, h, _, _ => by simp at h
  | _ :: _, [], _, _, h, _ => by simp at h
  | t0 :: ts, d0 :: ds, i, ht, hd, hx => by
    rw [DataW.weightsEach]
    cases i with
    | zero =>
      simp at ht hd
      subst ht hd
      exact List.mem_append_left _ hx
    | succ i => exact List.mem_append_right _ (weightsEach_mem (i := i) (by simpa using ht) (by simpa using hd) hx)
theorem weights_slice_len {t e : TypeId} {l sp : List (DataW H)} (ht : P.underlying t = some (.slice e)) : (l.length + sp.length) * P.bytesOf e ∈ DataW.weights P t (.slice l sp) := by
  simp [DataW.weights, ht]
theorem weights_slice_mem {t e : TypeId} {l sp : List (DataW H)} {d : DataW H} {x : Nat} (ht : P.underlying t = some (.slice e)) (hd : d ∈ l) (hx : x ∈ d.weights P e) : x ∈ DataW.weights P t (.slice l sp) := by
  simp only [DataW.weights, ht]
  exact List.mem_cons_of_mem _ (List.mem_append_left _ (weightsAll_mem hd hx))
theorem weights_struct_mem {t : TypeId} {fs : Array Field} {l : List (DataW H)} {d : DataW H} {x j : Nat} {f : Field} (ht : P.underlying t = some (.struct fs)) (hf : fs[j]? = some f) (hd : l[j]? = some d) (hx : x ∈ d.weights P f.type) : x ∈ DataW.weights P t (.agg l) := by
  simp only [DataW.weights, ht]
  exact weightsEach_mem (i := j) (by simp [hf]) hd hx
theorem weights_string (t : TypeId) (l : List UInt8) : l.length ∈ DataW.weights (H := H) P t (.lit (.string l)) := by simp [DataW.weights]
end
end Go.Proofs.YtaaomhjgolmakaaGreatDoor
namespace Go.Proofs.YtaaomhjgolmakaaGreatDoor
open Go.ChangeShapes Go.WideShapes Go.ChangeAt Go.RowKit Go.Deep
theorem cfg_cells : Tryz.prog.cellsOf 26 = 19 := by kernel_rfl
theorem ten_cells : Tryz.prog.cellsOf 123 = 3 := by kernel_rfl
theorem int_cells : Tryz.prog.cellsOf 3 = 1 := by kernel_rfl
theorem ten_bytes : Tryz.prog.bytesOf 123 = 32 := by kernel_rfl
theorem int_bytes : Tryz.prog.bytesOf 3 = 8 := by kernel_rfl
theorem cfg_fields : ∃ fs, Tryz.prog.underlying 26 = some (.struct fs) ∧ oneCellFields Tryz.prog fs = true ∧ fs.size = 19 ∧
    fs.toList.map (·.type) = [23, 24, 3, 3, 3, 3, 3, 3, 3, 3, 3, 3, 3, 3, 3, 3, 3, 3, 3] :=
  ⟨_, Tryz.underlying26, by kernel_rfl, by kernel_rfl, by kernel_rfl⟩
theorem ten_fields : ∃ fs, Tryz.prog.underlying 123 = some (.struct fs) ∧ oneCellFields Tryz.prog fs = true ∧ fs.size = 3 ∧ fs.toList.map (·.type) = [9, 3, 3] :=
  ⟨_, Tryz.underlying123, by kernel_rfl, by kernel_rfl, by kernel_rfl⟩
theorem addr_add (b o j : Nat) : (⟨b, o, none⟩ : Addr).add j = ⟨b, o + j, none⟩ := by unfold Addr.add; split <;> simp_all
theorem field_at {fs : Array Field} {l : List TypeId} (h : fs.toList.map (·.type) = l) {j : Nat} {t : TypeId} (ht : l[j]? = some t) : ∃ f, fs[j]? = some f ∧ f.type = t := by
  rw [← h, List.getElem?_map] at ht
  cases hj : fs.toList[j]? with
  | none => rw [hj] at ht; cases ht
  | some f =>
    rw [hj] at ht
    exact ⟨f, by simpa using hj, by simpa using ht⟩
section
variable {H : Type} {enc : TypeId × Value → H} {W : World} {base : Nat} {sp : Nat → Bool} {hd : Bool}
theorem field_int {n : Nat} {u : Value} {y : DataW H × List MemPlace} (h : FieldAt enc Tryz.prog W base sp hd n 3 u y) : ∃ k : Int, u = .int .i64 k := by
  obtain ⟨k, e, _, _⟩ := DataW.trod_int Tryz.underlying3 h
  exact ⟨k, by simpa using e⟩
theorem field_string {n : Nat} {u : Value} {y : DataW H × List MemPlace} (h : FieldAt enc Tryz.prog W base sp hd n 9 u y) : ∃ s : ByteArray, u = .string s ∧ y.1 = .lit (.string s.data.toList) := by
  obtain ⟨s, e, rfl, _⟩ := DataW.trod_string Tryz.underlying9 h
  exact ⟨s, by simpa using e, rfl⟩
set_option maxRecDepth 100000 in
theorem open_tens {n : Nat} {u : Value} {y : DataW H × List MemPlace} (h : FieldAt enc Tryz.prog W base sp hd n 23 u y) (hz : ∀ x ∈ y.1.weights Tryz.prog 23, x ≤ 140737488351232) : ∃ ts, TensAt W u ts := by
  obtain ⟨fs, hu, hone, hsz, hty⟩ := ten_fields
  obtain ⟨a, len, cap, D, rfl, hx, hcap, hi⟩ := open_rows Tryz.underlying23 hu hone (ten_cells.trans hsz.symm) (by omega) h
  obtain ⟨f0, hf0, ht0⟩ := field_at hty (j := 0) rfl
  obtain ⟨f1, hf1, ht1⟩ := field_at hty (j := 1) rfl
  obtain ⟨f2, hf2, ht2⟩ := field_at hty (j := 2) rfl
  have key : ∀ i, i < len → ∃ (t : Ten) (b off : Nat), a = some ⟨b, off, none⟩ ∧ W.cell? ⟨b, off + i * 3, none⟩ = some (.string t.name) ∧ W.cell? ⟨b, off + i * 3 + 1, none⟩ = some (.int .i64 t.weight) ∧ W.cell? ⟨b, off + i * 3 + 2, none⟩ = some (.int .i64 t.quota) ∧ t.name.size ≤ 140737488351232 := by
    intro i hil
    obtain ⟨b, off, ys, m, ha, hD, hl, hf⟩ := hi i hil
    obtain ⟨u0, y0, c0, hy0, h0⟩ := hf 0 f0 hf0
    obtain ⟨u1, y1, c1, hy1, h1⟩ := hf 1 f1 hf1
    obtain ⟨u2, y2, c2, hy2, h2⟩ := hf 2 f2 hf2
    rw [ht0] at h0; rw [ht1] at h1; rw [ht2] at h2
    obtain ⟨s, rfl, hs⟩ := field_string h0
    obtain ⟨k1, rfl⟩ := field_int h1
    obtain ⟨k2, rfl⟩ := field_int h2
    rw [hsz] at c0 c1 c2
    refine ⟨⟨s, k1, k2⟩, b, off, ha, c0, by simpa [Nat.add_assoc] using c1, by simpa [Nat.add_assoc] using c2, ?_⟩
    rcases hx with hx | ⟨sp, hx⟩
    · omega
    · refine hz s.size ?_
      rw [hx]
      refine weights_slice_mem Tryz.underlying23 (d := D i) (List.mem_map.2 ⟨i, List.mem_range.2 hil, rfl⟩) ?_
      rw [hD]
      refine weights_struct_mem hu (j := 0) hf0 (d := y0.1) (by simp [hy0]) ?_
      rw [ht0, hs]
      have := weights_string (H := H) (P := Tryz.prog) 9 s.data.toList
      simpa using this
  let t : Nat → Ten := fun i => if h : i < len then (key i h).choose else ⟨⟨#[]⟩, 0, 0⟩
  refine ⟨(List.range len).map t, a, cap, by simp, ?_, fun i t0 h0 => ?_⟩
  · rcases hx with hx | ⟨sp, hx⟩
    · simp [hx]
    · have h1 := hz _ (by rw [hx]; exact weights_slice_len Tryz.underlying23)
      rw [ten_bytes] at h1
      simp at h1 ⊢
      omega
  · have hil : i < len := by
      have := (List.getElem?_eq_some_iff.1 h0).1
      simpa using this
    have e0 : t0 = (key i hil).choose := by
      rw [List.getElem?_map, List.getElem?_range hil] at h0
      simp only [Option.map_some, Option.some.injEq] at h0
      rw [← h0]
      simp only [t]
      rw [dif_pos hil]
    obtain ⟨b, off, ha, c0, c1, c2, hs⟩ := (key i hil).choose_spec
    rw [← e0] at c0 c1 c2 hs
    exact ⟨hs, b, off, ha, c0, c1, c2⟩
set_option maxRecDepth 100000 in
theorem open_ints {n : Nat} {u : Value} {y : DataW H × List MemPlace} (h : FieldAt enc Tryz.prog W base sp hd n 24 u y) (hz : ∀ x ∈ y.1.weights Tryz.prog 24, x ≤ 140737488351232) : ∃ ls, IntsAt W u ls := by
  rcases open_slice Tryz.underlying24 h with ⟨h1, h2⟩ | ⟨a, len, cap, m, n, D, Pl, hcs, hb, hl, hm, hmm, hx, hi⟩
  · have : u = .slice none 0 0 := by simpa using h1
    subst this
    exact ⟨[], none, 0, rfl, by simp, fun i n hn => by simp at hn⟩
  · have : u = .slice (some a) len cap := by simpa using hcs
    subst this
    have hlm : len ≤ m := by rw [hmm]; split <;> omega
    have key : ∀ i, i < len → ∃ k : Int, W.cell? (a.add i) = some (.int .i64 k) := by
      intro i hil
      obtain ⟨cs', hc, ht'⟩ := hi i (by omega)
      rw [int_cells] at hc
      obtain ⟨_, hcl, hat⟩ := World.cells?_some hc
      obtain ⟨k, rfl, _, _⟩ := DataW.trod_int Tryz.underlying3 ht'
      have := hat 0 (by omega)
      rw [Go.Deep.add_add] at this
      exact ⟨k, by simpa using this⟩
    have hsp : 0 < len → a.spot = none := fun h0 => by
      obtain ⟨k, hk⟩ := key 0 h0
      exact cell_spot (by simpa [Addr.add] using hk)
    let t : Nat → Int := fun i => if h : i < len then (key i h).choose else 0
    refine ⟨(List.range len).map t, some a, cap, by simp, ?_, fun i t0 h0 => ?_⟩
    · have h1 := hz _ (by rw [hx]; exact weights_slice_len Tryz.underlying24)
      rw [int_bytes] at h1
      simp at h1 ⊢
      omega
    · have hil : i < len := by
        have := (List.getElem?_eq_some_iff.1 h0).1
        simpa using this
      have e0 : t0 = (key i hil).choose := by
        rw [List.getElem?_map, List.getElem?_range hil] at h0
        simp only [Option.map_some, Option.some.injEq] at h0
        rw [← h0]
        simp only [t]
        rw [dif_pos hil]
      have c0 := (key i hil).choose_spec
      rw [← e0] at c0
      obtain ⟨b, off, spot⟩ := a
      have hs := hsp (by omega)
      simp at hs
      subst hs
      rw [addr_add] at c0
      exact ⟨b, off, rfl, c0⟩
set_option maxRecDepth 100000 in
theorem open_config {b0 : Nat} {v : Value} {d : DataW H} {p : List MemPlace} (hv : Value.okWide Tryz.prog W .any b0 26 v) (h : DataW.Trod enc Tryz.prog W base sp hd 26 v d p)
    (hz : ∀ x ∈ d.weights Tryz.prog 26, x ≤ 140737488351232) : ∃ cs tv lv c, v = .agg cs ∧ CfgCells cs tv lv c ∧ CfgAt W tv lv c := by
  obtain ⟨fs, hu, hone, hsz, hty⟩ := cfg_fields
  obtain ⟨cs, ys, n, rfl, rfl, rfl, hcs, hys, hf⟩ := open_struct hu hone (cfg_cells.trans hsz.symm) hv h
  have wt : ∀ (j : Nat) (f : Field) (y : DataW H × List MemPlace), fs[j]? = some f → ys[j]? = some y → ∀ x ∈ y.1.weights Tryz.prog f.type, x ≤ 140737488351232 := fun j f y hj hy x hx =>
    hz x (weights_struct_mem hu hj (d := y.1) (by simp [hy]) hx)
  have int : ∀ j, 2 ≤ j → j < 19 → ∃ k : Int, cs[j]? = some (.int .i64 k) := by
    intro j h2 h19
    have ht : [23, 24, 3, 3, 3, 3, 3, 3, 3, 3, 3, 3, 3, 3, 3, 3, 3, 3, 3][j]? = some 3 := by
      have hj : j = 2 ∨ j = 3 ∨ j = 4 ∨ j = 5 ∨ j = 6 ∨ j = 7 ∨ j = 8 ∨ j = 9 ∨ j = 10 ∨ j = 11 ∨ j = 12 ∨ j = 13 ∨ j = 14 ∨ j = 15 ∨ j = 16 ∨ j = 17 ∨ j = 18 := by omega
      rcases hj with rfl | rfl | rfl | rfl | rfl | rfl | rfl | rfl | rfl | rfl | rfl | rfl | rfl | rfl | rfl | rfl | rfl <;> rfl
    obtain ⟨f, hfj, htj⟩ := field_at hty ht
    obtain ⟨u, y, hcj, hyj, hr⟩ := hf j f hfj
    rw [htj] at hr
    obtain ⟨k, rfl⟩ := field_int hr
    exact ⟨k, hcj⟩
  obtain ⟨f0, hf0, ht0⟩ := field_at hty (j := 0) rfl
  obtain ⟨f1, hf1, ht1⟩ := field_at hty (j := 1) rfl
  obtain ⟨tv, y0, c0, hy0, r0⟩ := hf 0 f0 hf0
  obtain ⟨lv, y1, c1, hy1, r1⟩ := hf 1 f1 hf1
  have w0 := wt 0 f0 y0 hf0 hy0
  have w1 := wt 1 f1 y1 hf1 hy1
  rw [ht0] at r0 w0
  rw [ht1] at r1 w1
  obtain ⟨ts, hts⟩ := open_tens r0 w0
  obtain ⟨ls, hls⟩ := open_ints r1 w1
  obtain ⟨k2, e2⟩ := int 2 (by omega) (by omega)
  obtain ⟨k3, e3⟩ := int 3 (by omega) (by omega)
  obtain ⟨k4, e4⟩ := int 4 (by omega) (by omega)
  obtain ⟨k5, e5⟩ := int 5 (by omega) (by omega)
  obtain ⟨k6, e6⟩ := int 6 (by omega) (by omega)
  obtain ⟨k7, e7⟩ := int 7 (by omega) (by omega)
  obtain ⟨k8, e8⟩ := int 8 (by omega) (by omega)
  obtain ⟨k9, e9⟩ := int 9 (by omega) (by omega)
  obtain ⟨k10, e10⟩ := int 10 (by omega) (by omega)
  obtain ⟨k11, e11⟩ := int 11 (by omega) (by omega)
  obtain ⟨k12, e12⟩ := int 12 (by omega) (by omega)
  obtain ⟨k13, e13⟩ := int 13 (by omega) (by omega)
  obtain ⟨k14, e14⟩ := int 14 (by omega) (by omega)
  obtain ⟨k15, e15⟩ := int 15 (by omega) (by omega)
  obtain ⟨k16, e16⟩ := int 16 (by omega) (by omega)
  obtain ⟨k17, e17⟩ := int 17 (by omega) (by omega)
  obtain ⟨k18, e18⟩ := int 18 (by omega) (by omega)
  exact ⟨cs, tv, lv, ⟨ts, ls, k2, k3, k4, k5, k6, k7, k8, k9, k10, k11, k12, k13, k14, k15, k16, k17, k18⟩, rfl, ⟨hcs.trans hsz, c0, c1, e2, e3, e4, e5, e6, e7, e8, e9, e10, e11, e12, e13, e14, e15, e16, e17, e18⟩, hts, hls⟩
end
end Go.Proofs.YtaaomhjgolmakaaGreatDoor
