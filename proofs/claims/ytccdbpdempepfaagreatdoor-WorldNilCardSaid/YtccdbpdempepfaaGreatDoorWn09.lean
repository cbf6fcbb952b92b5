/-
  How a law's walk becomes its row: a call that hands back true and leaves all that lay there as it was.
  How a law's walk becomes its row, where the row lists errors.errorType by its type's handle, and utf8's tables.
  A WORLD FOR THE WITNESS : the settled one, utf8's tables and errors.errorType laid.
  An event that came in.
-/
import Derived.Test.YtccdbpdempepfaaGreatDoorWn01
import Derived.ProofKit
import Derived.OpenShut
import Derived.SizedLaws
import Derived.Lib.SmallJoins
import Derived.ShutString
import Derived.Test.YtccdbpdempepfaaGreatDoorRows
import Derived.Deep.DeepHandedRow
import Derived.Shelf.Vars
import Derived.SevenTiedAt
import Derived.LaidLaws
import Derived.LaidHandle
import Derived.Test.YtccdbpdempepfaaGreatDoorWn08
import Derived.Test.YtccdbpdempepfaaGreatDoorWn07
namespace Go.Proofs.YtccdbpdempepfaaGreatDoor
open Go.ChangeShapes Go.WideShapes Go.ChangeAt Go.RowKit
theorem own : ownKnob Tryz.prog.godebug = none := by kernel_rfl
def loK (P : Program) (a n : Nat) : Bool := (List.range' a n).all fun t => !(decide (t < P.types.size)) || rowFine P t
theorem loK_at {P : Program} {a n t : Nat} (h : loK P a n = true) (h1 : a ≤ t) (h2 : t < a + n) (h3 : t < P.types.size) : rowFine P t = true := by
  have := List.all_eq_true.1 h t (List.mem_range'_1.2 ⟨h1, h2⟩)
  simpa [h3] using this
theorem lo0 : loK Tryz.prog 0 100 = true := by kernel_rfl
theorem lo1 : loK Tryz.prog 100 100 = true := by kernel_rfl
theorem lo2 : loK Tryz.prog 200 100 = true := by kernel_rfl
theorem lo3 : loK Tryz.prog 300 100 = true := by kernel_rfl
theorem lo4 : loK Tryz.prog 400 100 = true := by kernel_rfl
theorem lo5 : loK Tryz.prog 500 100 = true := by kernel_rfl
theorem lo6 : loK Tryz.prog 600 100 = true := by kernel_rfl
theorem lo7 : loK Tryz.prog 700 100 = true := by kernel_rfl
theorem lo8 : loK Tryz.prog 800 100 = true := by kernel_rfl
theorem lo9 : loK Tryz.prog 900 100 = true := by kernel_rfl
theorem lo10 : loK Tryz.prog 1000 100 = true := by kernel_rfl
theorem lo11 : loK Tryz.prog 1100 100 = true := by kernel_rfl
theorem lo_size : Nat.ble Tryz.prog.types.size 1200 = true := by kernel_rfl
theorem lo_g : Tryz.prog.globals.all (fun g => decide (g.type < Tryz.prog.types.size)) = true := by kernel_rfl
theorem lo_f : Tryz.prog.funcs.all (fun f => f.params.all fun t => decide (t < Tryz.prog.types.size)) = true := by kernel_rfl
theorem laidOut : laidOutB Tryz.prog = true := by
  have hs := Nat.le_of_ble_eq_true lo_size
  have h : (List.range Tryz.prog.types.size).all (rowFine Tryz.prog) = true := List.all_eq_true.2 fun t ht => by
    have ht := List.mem_range.1 ht
    have ht2 : t < 1200 := Nat.lt_of_lt_of_le ht hs
    rcases Nat.lt_or_ge t 100 with h | h0
    · exact loK_at lo0 (Nat.zero_le _) (by omega) ht
    rcases Nat.lt_or_ge t 200 with h | h1
    · exact loK_at lo1 (by omega) (by omega) ht
    rcases Nat.lt_or_ge t 300 with h | h2
    · exact loK_at lo2 (by omega) (by omega) ht
    rcases Nat.lt_or_ge t 400 with h | h3
    · exact loK_at lo3 (by omega) (by omega) ht
    rcases Nat.lt_or_ge t 500 with h | h4
    · exact loK_at lo4 (by omega) (by omega) ht
    rcases Nat.lt_or_ge t 600 with h | h5
    · exact loK_at lo5 (by omega) (by omega) ht
    rcases Nat.lt_or_ge t 700 with h | h6
    · exact loK_at lo6 (by omega) (by omega) ht
    rcases Nat.lt_or_ge t 800 with h | h7
    · exact loK_at lo7 (by omega) (by omega) ht
    rcases Nat.lt_or_ge t 900 with h | h8
    · exact loK_at lo8 (by omega) (by omega) ht
    rcases Nat.lt_or_ge t 1000 with h | h9
    · exact loK_at lo9 (by omega) (by omega) ht
    rcases Nat.lt_or_ge t 1100 with h | h10
    · exact loK_at lo10 (by omega) (by omega) ht
    rcases Nat.lt_or_ge t 1200 with h | h11
    · exact loK_at lo11 (by omega) (by omega) ht
    omega
  unfold laidOutB
  rw [h, lo_g, lo_f]
  rfl
section
variable {H : Type} {enc : TypeId × Value → H} {P : Program}
theorem trodAll_below (hl : laidOutB P = true) {W W' : World} (hb : Below W.heap.size W W') : ∀ (ts : List TypeId) (vs : List Value) (ds : List (DataW H)) (ps : List MemPlace),
    (∀ t, t ∈ ts → P.readableRec t = true ∧ t < P.types.size) → DataW.TrodAll enc P W 0 (fun _ => true) true ts vs ds ps → (∀ x ∈ ps, x.block < W.heap.size) →
    DataW.TrodAll enc P W' 0 (fun b => decide (b < W.heap.size)) true ts vs ds ps
  | [], vs, ds, ps, _, h, _ => by
    cases vs <;> cases ds <;> simp [DataW.TrodAll] at h ⊢
    exact h
  | t :: ts, vs, ds, ps, hr, h, hlt => by
    obtain ⟨v, vs', d, ds', p, q, rfl, rfl, rfl, h0, h1⟩ := trodAll_cons h
    obtain ⟨hr0, hr1⟩ := hr t (by simp)
    exact trodAll_cons_mk (hb.trod hl hr0 hr1 h0 (fun x hx => hlt x (List.mem_append_left _ hx)))
      (trodAll_below hl hb ts vs' ds' q (fun t ht => hr t (List.mem_cons_of_mem _ ht)) h1 (fun x hx => hlt x (List.mem_append_right _ hx)))
theorem trodAll_len : ∀ {w : World} {base : Nat} {spare : Nat → Bool} {held : Bool} (ts : List TypeId) (vs : List Value) (ds : List (DataW H)) (ps : List MemPlace), DataW.TrodAll enc P w base spare held ts vs ds ps → ds.length = ts.length
  | _, _, _, _, [], vs, ds, ps, h => by cases vs <;> cases ds <;> simp_all [DataW.TrodAll]
  | _, _, _, _, t :: ts, vs, ds, ps, h => by
    obtain ⟨v, vs', d, ds', p, q, rfl, rfl, rfl, h0, h1⟩ := trodAll_cons h
    have := trodAll_len ts vs' ds' q h1
    simp [this]
theorem law_post {f : Func} {s : ChangeSpec} {W W' : World} {args : Array Value} {ds gs : List (DataW H)} {before : List MemPlace} {tb : TypeId}
    (hl : laidOutB P = true) (hr : ∀ t, t ∈ f.params.toList → P.readableRec t = true ∧ t < P.types.size) (hv : s.vars = [])
    (hs : ∀ ds : List (DataW H), ds.length = f.params.size → s.fn H ds = { results := [.lit (.bool true)], args := ds }) (hrt : f.resultTypes = #[tb]) (hb4 : P.underlying tb = some .bool)
    (hW : DataW.Whole enc P f.params.toList s.vars false W args.toList ds gs before) (hb : Below W.heap.size W W') : s.post enc P f false true false false W args (.bool true) W' := by
  have hlt := hW.lt
  have hW' := hW
  obtain ⟨p, q, hA, hV, rfl, _, _⟩ := hW
  rw [hv] at hV
  have hg : gs = [] ∧ q = [] := by
    cases gs with
    | nil => exact ⟨rfl, by simpa [DataW.TrodVars] using hV⟩
    | cons g r => simp [DataW.TrodVars] at hV
  obtain ⟨rfl, rfl⟩ := hg
  have e1 := hs ds (by have := trodAll_len _ _ _ _ hA; simpa using this)
  simp only [List.append_nil] at hlt hW'
  refine ⟨ds, [], p, [], p, [], hW', ?_, ?_, ?_, ?_, fun h => by cases h⟩
  · rw [List.append_nil, e1, hrt]
    exact trodAll_mk1 (shut_bool hb4 _)
  · rw [List.append_nil, e1]
    exact trodAll_below hl hb _ _ _ _ hr hA hlt
  · rw [List.append_nil, e1, hv]
    simp [DataW.TrodVars]
  · exact hb.frame _
theorem reach_le {l : List Nat} (h : l.all (· ≤ reachBytes) = true) : ∀ x ∈ l, x ≤ 140737488351232 := by
  intro x hx
  have h1 := List.all_eq_true.1 h x hx
  exact of_decide_eq_true h1
end
end Go.Proofs.YtccdbpdempepfaaGreatDoor
namespace Go.Proofs.YtccdbpdempepfaaGreatDoor
open Go.ChangeShapes Go.WideShapes Go.ChangeAt Go.RowKit
section
variable {H : Type} {enc : TypeId × Value → H} {P : Program}
theorem law_contract {C : Checked} {f : FuncId} {fn : Func} {s : ChangeSpec} {ts : List TypeId} {tb : TypeId} (hC : C.prog = P)
    (hp : fn.params.toList = ts) (hl : laidOutB P = true) (hr : ∀ t, t ∈ ts → P.readableRec t = true ∧ t < P.types.size) (hv : s.vars = [])
    (hs : ∀ ds : List (DataW H), ds.length = ts.length → s.fn H ds = { results := [.lit (.bool true)], args := ds }) (hrt : fn.resultTypes = #[tb]) (hb4 : P.underlying tb = some .bool)
    {W : World} {base : Nat} {args : Array Value} {ds gs : List (DataW H)} {before : List MemPlace}
    (hval : ∀ (j : Nat) t v, fn.params[j]? = some t → args[j]? = some v → Value.okWide C.prog W .any base t v)
    (hW : DataW.Whole enc C.prog fn.params.toList s.vars false W args.toList ds gs before)
    (hz : (DataW.weightsEach C.prog (fn.params.toList ++ []) (ds ++ gs)).all (· ≤ reachBytes) = true)
    (walk : ∀ (args : List Value) (ps : List MemPlace), (∀ (j : Nat) t v, ts[j]? = some t → args[j]? = some v → Value.okWide P W .any base t v) →
      DataW.TrodAll enc P W 0 (fun _ => true) true ts args ds ps → (∀ x ∈ DataW.weightsEach P ts ds, x ≤ 140737488351232) → Calls P f args.toArray W fun e W' => e = .returned (.bool true) ∧ Below W.heap.size W W') :
    Calls C.prog f args W fun e W' => ∃ v, e = .returned v ∧ s.post enc C.prog fn false true false false W args v W' := by
  subst hC
  have hW' := hW
  obtain ⟨p, q, hA, hV, rfl, _, _⟩ := hW
  have hg : gs = [] := by
    rw [hv] at hV
    cases gs with
    | nil => rfl
    | cons g r => simp [DataW.TrodVars] at hV
  subst hg
  rw [List.append_nil, List.append_nil, hp] at hz
  rw [hp] at hA
  have hval' : ∀ (j : Nat) t v, ts[j]? = some t → args.toList[j]? = some v → Value.okWide C.prog W .any base t v := fun j t v h1 h2 => hval j t v (by rw [← hp] at h1; simpa using h1) (by simpa using h2)
  refine (walk args.toList p hval' hA (reach_le hz)).mono fun e W' ⟨he, hb⟩ => ?_
  exact ⟨_, he, law_post hl (by rw [hp]; exact hr) hv (fun ds h => hs ds (by rw [h, ← hp]; simp)) hrt hb4 hW' hb⟩
end
theorem handle_cell {P : Program} {laid : List (String × DataW Unit)} {W : World} {d : DataW Unit} {name : List UInt8} {u ty0 G : Nat} (h : laidMetH P laid W) (hm : ("errors.errorType", d) ∈ laid) (hd : d.handleName? = some name) (hf : d.funcsIn? = none)
    (hrt : (P.cutTypes.find? (·.1 == "internal/reflectlite.rtype")).map (·.2) = some u) (hone : ((List.range P.types.size).filter fun t => P.rowNamed t name) = [ty0]) (hg : P.globalNamed "errors.errorType" = some G) : W.cell? ⟨G, 0, none⟩ = some (.iface u (.agg #[typeHandle P ty0])) := by
  have hin : ("errors.errorType", d) ∈ laid.filter fun x => x.2.handleName?.isSome := List.mem_filter.2 ⟨hm, by simp [hd]⟩
  have hh : handlesMet P (laid.filter fun x => x.2.handleName?.isSome) W := by
    unfold laidMetH at h
    generalize hfl : (laid.filter fun x => x.2.handleName?.isSome) = fl at h hin
    cases fl with
    | nil => cases hin
    | cons x xs => exact h.2
  have h1 := hh _ hin
  simp only [hf] at h1
  obtain ⟨name', u', ty, e1, e2, e3, e4, e5⟩ := h1
  obtain rfl := Option.some.inj (hd.symm.trans e1)
  obtain rfl := Option.some.inj (hrt.symm.trans e2)
  have hm : ty ∈ (List.range P.types.size).filter fun t => P.rowNamed t name := List.mem_filter.2 ⟨List.mem_range.2 e3, e4⟩
  rw [hone] at hm
  obtain rfl := List.mem_singleton.1 hm
  simpa using World.var?_cell hg e5 0
def flat1 : DataW Unit → List Value
  | .agg l => l.filterMap fun | .lit (.int k x) => some (.int k x) | _ => none
  | _ => []
def flat2 : DataW Unit → List Value
  | .agg l => l.flatMap flat1
  | _ => []
def layIn (cs : Array Value) : Obj → Obj
  | .cells _ t frozen => .cells cs t frozen
  | o => o
end Go.Proofs.YtccdbpdempepfaaGreatDoor
namespace Go.Proofs.YtccdbpdempepfaaGreatDoor
open Go.ChangeShapes Go.WideShapes Go.ChangeAt Go.RowKit
noncomputable def laidWorld (os : Os) : World :=
  { World.holding Tryz.prog os ⟨#[], #[], []⟩ with heap := (((World.holding Tryz.prog os ⟨#[], #[], []⟩).heap.modify 3 (layIn (flat2 Rows.laid_unicode_utf8_acceptRanges).toArray)).modify 2 (layIn (flat1 Rows.laid_unicode_utf8_first).toArray)).modify 1 (layIn #[Ev.etV]) }
theorem laid_met (os : Os) (args : Array Value) : laidMetH Tryz.prog Rows.worldNilRow.laid ((laidWorld os).forCall (fun _ _ => 0) ⟨#[], args, []⟩).memory :=
  laidMetH_of_parts (laidMet_of_run' 8 (by kernel_rfl) (by kernel_rfl)) (by kernel_rfl)
theorem one_error : ((List.range Tryz.prog.types.size).filter fun t => Tryz.prog.rowNamed t [101, 114, 114, 111, 114]) = [251] := by kernel_rfl
theorem et_is : (Value.iface 712 (.agg #[typeHandle Tryz.prog 251])) = Ev.etV := by kernel_rfl
theorem et_cell {W : World} (hL : laidMetH Tryz.prog Rows.worldNilRow.laid W) : W.cell? ⟨1, 0, none⟩ = some Ev.etV :=
  (handle_cell (P := Tryz.prog) hL (d := Rows.laid_errors_errorType) (name := [101, 114, 114, 111, 114]) (u := 712) (ty0 := 251) (G := 1) (by simp [Rows.worldNilRow]) rfl rfl (by kernel_rfl) one_error (by kernel_rfl)).trans (congrArg some et_is)
end Go.Proofs.YtccdbpdempepfaaGreatDoor
namespace Go.Proofs.YtccdbpdempepfaaGreatDoor
open Go.WideShapes Go.RowKit
theorem ev_types : Tryz.prog.cellTypes Tryz.prog.depth 25 = some [3, 9, 22, 3, 23] := by kernel_rfl
theorem ev_cells : Tryz.prog.cellsOf 25 = 5 := by kernel_rfl
set_option maxRecDepth 100000 in
theorem open_ev {W : World} {r : Reach} {b0 : Nat} {v : Value} (hv : Value.okWide Tryz.prog W r b0 25 v) : ∃ k b t f s, v = Ev.evV k b t f s ∧ (s = .slice none 0 0 ∨ ∃ g o l c, s = .slice (some ⟨g, o, none⟩) l c) := by
  simp only [Value.okWide, Tryz.underlying25] at hv
  obtain ⟨cs, rfl, hsz, ts, hts, _, hc⟩ := hv
  obtain rfl := Option.some.inj (ev_types.symm.trans hts)
  rw [ev_cells] at hsz
  have at_ : ∀ i (hi : i < 5), ∃ v, cs[i]? = some v := fun i hi => ⟨_, Array.getElem?_eq_getElem (by omega)⟩
  obtain ⟨v0, h0⟩ := at_ 0 (by decide)
  obtain ⟨v1, h1⟩ := at_ 1 (by decide)
  obtain ⟨v2, h2⟩ := at_ 2 (by decide)
  obtain ⟨v3, h3⟩ := at_ 3 (by decide)
  obtain ⟨v4, h4⟩ := at_ 4 (by decide)
  have ecs : cs = #[v0, v1, v2, v3, v4] := by
    apply Array.ext
    · exact hsz
    · intro i p q
      match i, p with
      | 0, _ => rw [Array.getElem?_eq_getElem (by omega)] at h0; exact Option.some.inj h0
      | 1, _ => rw [Array.getElem?_eq_getElem (by omega)] at h1; exact Option.some.inj h1
      | 2, _ => rw [Array.getElem?_eq_getElem (by omega)] at h2; exact Option.some.inj h2
      | 3, _ => rw [Array.getElem?_eq_getElem (by omega)] at h3; exact Option.some.inj h3
      | 4, _ => rw [Array.getElem?_eq_getElem (by omega)] at h4; exact Option.some.inj h4
      | i + 5, p => omega
  obtain ⟨_, e0, c0⟩ := hc 0 v0 h0
  obtain ⟨_, e1, c1⟩ := hc 1 v1 h1
  obtain ⟨_, e2, c2⟩ := hc 2 v2 h2
  obtain ⟨_, e3, c3⟩ := hc 3 v3 h3
  obtain ⟨_, e4, c4⟩ := hc 4 v4 h4
  simp only [List.length_cons, List.length_nil, Nat.zero_add, Nat.reduceAdd, Nat.reduceMod, List.getElem?_cons_zero, List.getElem?_cons_succ, Option.some.injEq] at e0 e1 e2 e3 e4
  subst e0 e1 e2 e3 e4
  obtain ⟨k, rfl⟩ : ∃ k : Int, v0 = .int .i64 k := by
    simp only [Cell.okWide, Tryz.underlying3] at c0
    cases v0 <;> simp_all [Cell.ok, Tryz.underlying3]
  obtain ⟨f, rfl⟩ : ∃ k : Int, v3 = .int .i64 k := by
    simp only [Cell.okWide, Tryz.underlying3] at c3
    cases v3 <;> simp_all [Cell.ok, Tryz.underlying3]
  obtain ⟨t, rfl⟩ : ∃ k : Int, v2 = .int .u64 k := by
    simp only [Cell.okWide, Tryz.underlying22] at c2
    cases v2 <;> simp_all [Cell.ok, Tryz.underlying22]
  obtain ⟨b, rfl⟩ : ∃ b : ByteArray, v1 = .string b := by
    simp only [Cell.okWide, Tryz.underlying9] at c1
    cases v1 <;> simp_all [Cell.ok, Tryz.underlying9]
  refine ⟨k, b, t, f, v4, by rw [ecs]; rfl, ?_⟩
  simp only [Cell.okWide, Tryz.underlying23] at c4
  cases v4 with
  | slice a l c =>
    cases a with
    | none =>
      left
      simp only [Cell.ok, Tryz.underlying23] at c4
      split at c4 <;> simp_all
    | some a =>
      right
      simp only [Cell.ok, Tryz.underlying23] at c4
      obtain ⟨g, o, q⟩ := a
      have : q = none := c4.2.2.2.1
      subst this
      exact ⟨g, o, l, c, rfl⟩
  | _ => simp [Cell.ok, Tryz.underlying23] at c4
end Go.Proofs.YtccdbpdempepfaaGreatDoor
