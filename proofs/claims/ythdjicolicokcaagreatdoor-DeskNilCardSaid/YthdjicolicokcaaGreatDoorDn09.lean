/-
  How a law's walk becomes its row: a call that hands back true and leaves all that lay there as it was.
  How a law's walk becomes its row, where the row lists errors.errorType by its type's handle, and utf8's tables.
  A WORLD FOR THE WITNESS : the settled one, the tables and errors.errorType laid.
-/
import Derived.Test.YthdjicolicokcaaGreatDoorDn01
import Derived.ProofKit
import Derived.OpenShut
import Derived.SizedLaws
import Derived.Lib.SmallJoins
import Derived.ShutString
import Derived.Test.YthdjicolicokcaaGreatDoorRows
import Derived.Deep.DeepHandedRow
import Derived.Shelf.Vars
import Derived.SevenTiedAt
import Derived.LaidLaws
import Derived.LaidHandle
import Derived.Test.YthdjicolicokcaaGreatDoorDn07
namespace Go.Proofs.YthdjicolicokcaaGreatDoor
open Go.ChangeShapes Go.WideShapes Go.ChangeAt Go.RowKit
theorem own : ownKnob Tryz.prog.godebug = none := by kernel_rfl
def loK (P : Program) (a n : Nat) : Bool := (List.range' a n).all fun t => !(decide (t < P.types.size)) || rowFine P t
theorem loK_at {P : Program} {a n t : Nat} (h : loK P a n = true) (h1 : a ≤ t) (h2 : t < a + n) (h3 : t < P.types.size) : rowFine P t = true := by
  have := List.all_eq_true.1 h t (List.mem_range'_1.2 ⟨h1, h2⟩)
  simpa [h3] using this
theorem lo0 : loK Tryz.prog 0 100 = true := by kernel_rfl
theorem lo1 : loK Tryz.prog 100 100 = true := by kernel_rfl
theorem lo2 : loK Tryz.prog 200 100 = true := by kernel_rfl
theorem lo3 : loK Tryz.prog 300 100 = true := by kernel_rfl
theorem lo4 : loK Tryz.prog 400 100 = true := by kernel_rfl
theorem lo5 : loK Tryz.prog 500 100 = true := by kernel_rfl
theorem lo6 : loK Tryz.prog 600 100 = true := by kernel_rfl
theorem lo7 : loK Tryz.prog 700 100 = true := by kernel_rfl
theorem lo8 : loK Tryz.prog 800 100 = true := by kernel_rfl
theorem lo9 : loK Tryz.prog 900 100 = true := by kernel_rfl
theorem lo10 : loK Tryz.prog 1000 100 = true := by kernel_rfl
theorem lo11 : loK Tryz.prog 1100 100 = true := by kernel_rfl
theorem lo_size : Nat.ble Tryz.prog.types.size 1200 = true := by kernel_rfl
theorem lo_g : Tryz.prog.globals.all (fun g => decide (g.type < Tryz.prog.types.size)) = true := by kernel_rfl
theorem lo_f : Tryz.prog.funcs.all (fun f => f.params.all fun t => decide (t < Tryz.prog.types.size)) = true := by kernel_rfl
theorem laidOut : laidOutB Tryz.prog = true := by
  have hs := Nat.le_of_ble_eq_true lo_size
  have h : (List.range Tryz.prog.types.size).all (rowFine Tryz.prog) = true := List.all_eq_true.2 fun t ht => by
    have ht := List.mem_range.1 ht
    have ht2 : t < 1200 := Nat.lt_of_lt_of_le ht hs
    rcases Nat.lt_or_ge t 100 with h | h0
    · exact loK_at lo0 (Nat.zero_le _) (by omega) ht
    rcases Nat.lt_or_ge t 200 with h | h1
    · exact loK_at lo1 (by omega) (by omega) ht
    rcases Nat.lt_or_ge t 300 with h | h2
    · exact loK_at lo2 (by omega) (by omega) ht
    rcases Nat.lt_or_ge t 400 with h | h3
    · exact loK_at lo3 (by omega) (by omega) ht
    rcases Nat.lt_or_ge t 500 with h | h4
    · exact loK_at lo4 (by omega) (by omega) ht
    rcases Nat.lt_or_ge t 600 with h | h5
    · exact loK_at lo5 (by omega) (by omega) ht
    rcases Nat.lt_or_ge t 700 with h | h6
    · exact loK_at lo6 (by omega) (by omega) ht
    rcases Nat.lt_or_ge t 800 with h | h7
    · exact loK_at lo7 (by omega) (by omega) ht
    rcases Nat.lt_or_ge t 900 with h | h8
    · exact loK_at lo8 (by omega) (by omega) ht
    rcases Nat.lt_or_ge t 1000 with h | h9
    · exact loK_at lo9 (by omega) (by omega) ht
    rcases Nat.lt_or_ge t 1100 with h | h10
    · exact loK_at lo10 (by omega) (by omega) ht
    rcases Nat.lt_or_ge t 1200 with h | h11
    · exact loK_at lo11 (by omega) (by omega) ht
    omega
  unfold laidOutB
  rw [h, lo_g, lo_f]
  rfl
section
variable {H : Type} {enc : TypeId × Value → H} {P : Program}
theorem trodAll_below (hl : laidOutB P = true) {W W' : World} (hb : Below W.heap.size W W') : ∀ (ts : List TypeId) (vs : List Value) (ds : List (DataW H)) (ps : List MemPlace),
    (∀ t, t ∈ ts → P.readableRec t = true ∧ t < P.types.size) → DataW.TrodAll enc P W 0 (fun _ => true) true ts vs ds ps → (∀ x ∈ ps, x.block < W.heap.size) →
    DataW.TrodAll enc P W' 0 (fun b => decide (b < W.heap.size)) true ts vs ds ps
  | [], vs, ds, ps, _, h, _ => by
    cases vs <;> cases ds <;> simp [DataW.TrodAll] at h ⊢
    exact h
  | t :: ts, vs, ds, ps, hr, h, hlt => by
    obtain ⟨v, vs', d, ds', p, q, rfl, rfl, rfl, h0, h1⟩ := trodAll_cons h
    obtain ⟨hr0, hr1⟩ := hr t (by simp)
    exact trodAll_cons_mk (hb.trod hl hr0 hr1 h0 (fun x hx => hlt x (List.mem_append_left _ hx)))
      (trodAll_below hl hb ts vs' ds' q (fun t ht => hr t (List.mem_cons_of_mem _ ht)) h1 (fun x hx => hlt x (List.mem_append_right _ hx)))
theorem trodAll_len : ∀ {w : World} {base : Nat} {spare : Nat → Bool} {held : Bool} (ts : List TypeId) (vs : List Value) (ds : List (DataW H)) (ps : List MemPlace), DataW.TrodAll enc P w base spare held ts vs ds ps → ds.length = ts.length
  | _, _, _, _, [], vs, ds, ps, h => by cases vs <;> cases ds <;> simp_all [DataW.TrodAll]
  | _, _, _, _, t :: ts, vs, ds, ps, h => by
    obtain ⟨v, vs', d, ds', p, q, rfl, rfl, rfl, h0, h1⟩ := trodAll_cons h
    have := trodAll_len ts vs' ds' q h1
    simp [this]
theorem law_post {f : Func} {s : ChangeSpec} {W W' : World} {args : Array Value} {ds gs : List (DataW H)} {before : List MemPlace} {tb : TypeId}
    (hl : laidOutB P = true) (hr : ∀ t, t ∈ f.params.toList → P.readableRec t = true ∧ t < P.types.size) (hv : s.vars = [])
    (hs : ∀ ds : List (DataW H), ds.length = f.params.size → s.fn H ds = { results := [.lit (.bool true)], args := ds }) (hrt : f.resultTypes = #[tb]) (hb4 : P.underlying tb = some .bool)
    (hW : DataW.Whole enc P f.params.toList s.vars false W args.toList ds gs before) (hb : Below W.heap.size W W') : s.post enc P f false true false false W args (.bool true) W' := by
  have hlt := hW.lt
  have hW' := hW
  obtain ⟨p, q, hA, hV, rfl, _, _⟩ := hW
  rw [hv] at hV
  have hg : gs = [] ∧ q = [] := by
    cases gs with
    | nil => exact ⟨rfl, by simpa [DataW.TrodVars] using hV⟩
    | cons g r => simp [DataW.TrodVars] at hV
  obtain ⟨rfl, rfl⟩ := hg
  have e1 := hs ds (by have := trodAll_len _ _ _ _ hA; simpa using this)
  simp only [List.append_nil] at hlt hW'
  refine ⟨ds, [], p, [], p, [], hW', ?_, ?_, ?_, ?_, fun h => by cases h⟩
  · rw [List.append_nil, e1, hrt]
    exact trodAll_mk1 (shut_bool hb4 _)
  · rw [List.append_nil, e1]
    exact trodAll_below hl hb _ _ _ _ hr hA hlt
  · rw [List.append_nil, e1, hv]
    simp [DataW.TrodVars]
  · exact hb.frame _
theorem reach_le {l : List Nat} (h : l.all (· ≤ reachBytes) = true) : ∀ x ∈ l, x ≤ 140737488351232 := by
  intro x hx
  have h1 := List.all_eq_true.1 h x hx
  exact of_decide_eq_true h1
end
end Go.Proofs.YthdjicolicokcaaGreatDoor
namespace Go.Proofs.YthdjicolicokcaaGreatDoor
open Go.ChangeShapes Go.WideShapes Go.ChangeAt Go.RowKit
section
variable {H : Type} {enc : TypeId × Value → H} {P : Program}
theorem law_contract {C : Checked} {f : FuncId} {fn : Func} {s : ChangeSpec} {ts : List TypeId} {tb : TypeId} (hC : C.prog = P)
    (hp : fn.params.toList = ts) (hl : laidOutB P = true) (hr : ∀ t, t ∈ ts → P.readableRec t = true ∧ t < P.types.size) (hv : s.vars = [])
    (hs : ∀ ds : List (DataW H), ds.length = ts.length → s.fn H ds = { results := [.lit (.bool true)], args := ds }) (hrt : fn.resultTypes = #[tb]) (hb4 : P.underlying tb = some .bool)
    {W : World} {base : Nat} {args : Array Value} {ds gs : List (DataW H)} {before : List MemPlace}
    (hval : ∀ (j : Nat) t v, fn.params[j]? = some t → args[j]? = some v → Value.okWide C.prog W .any base t v)
    (hW : DataW.Whole enc C.prog fn.params.toList s.vars false W args.toList ds gs before)
    (hz : (DataW.weightsEach C.prog (fn.params.toList ++ []) (ds ++ gs)).all (· ≤ reachBytes) = true)
    (walk : ∀ (args : List Value) (ps : List MemPlace), (∀ (j : Nat) t v, ts[j]? = some t → args[j]? = some v → Value.okWide P W .any base t v) →
      DataW.TrodAll enc P W 0 (fun _ => true) true ts args ds ps → (∀ x ∈ DataW.weightsEach P ts ds, x ≤ 140737488351232) → Calls P f args.toArray W fun e W' => e = .returned (.bool true) ∧ Below W.heap.size W W') :
    Calls C.prog f args W fun e W' => ∃ v, e = .returned v ∧ s.post enc C.prog fn false true false false W args v W' := by
  subst hC
  have hW' := hW
  obtain ⟨p, q, hA, hV, rfl, _, _⟩ := hW
  have hg : gs = [] := by
    rw [hv] at hV
    cases gs with
    | nil => rfl
    | cons g r => simp [DataW.TrodVars] at hV
  subst hg
  rw [List.append_nil, List.append_nil, hp] at hz
  rw [hp] at hA
  have hval' : ∀ (j : Nat) t v, ts[j]? = some t → args.toList[j]? = some v → Value.okWide C.prog W .any base t v := fun j t v h1 h2 => hval j t v (by rw [← hp] at h1; simpa using h1) (by simpa using h2)
  refine (walk args.toList p hval' hA (reach_le hz)).mono fun e W' ⟨he, hb⟩ => ?_
  exact ⟨_, he, law_post hl (by rw [hp]; exact hr) hv (fun ds h => hs ds (by rw [h, ← hp]; simp)) hrt hb4 hW' hb⟩
end
def flat1 : DataW Unit → List Value
  | .agg l => l.filterMap fun | .lit (.int k x) => some (.int k x) | _ => none
  | _ => []
def flat2 : DataW Unit → List Value
  | .agg l => l.flatMap flat1
  | _ => []
def layIn (cs : Array Value) : Obj → Obj
  | .cells _ t frozen => .cells cs t frozen
  | o => o
end Go.Proofs.YthdjicolicokcaaGreatDoor
namespace Go.Proofs.YthdjicolicokcaaGreatDoor
open Go.ChangeShapes Go.WideShapes Go.ChangeAt Go.RowKit
def etW : Value := .iface 659 (.agg #[.pointer (some ⟨7, 89, none⟩)])
noncomputable def laidWorld (os : Os) : World :=
  { World.holding Tryz.prog os ⟨#[], #[], []⟩ with heap := ((((((World.holding Tryz.prog os ⟨#[], #[], []⟩).heap.modify 6 (layIn (flat2 Rows.laid_unicode_utf8_acceptRanges).toArray)).modify 5 (layIn (flat1 Rows.laid_unicode_utf8_first).toArray)).modify 2 (layIn #[etW])).modify 1 (layIn (flat1 Rows.laid_internal_strconv_uint64pow10).toArray)).modify 3 (layIn (flat1 Rows.laid_math_bits_deBruijn32tab).toArray)).modify 4 (layIn (flat1 Rows.laid_math_bits_deBruijn64tab).toArray) }
theorem laid_met_nil (os : Os) (args : Array Value) : laidMetH Tryz.prog Rows.deskNilRow.laid ((laidWorld os).forCall (fun _ _ => 0) ⟨#[], args, []⟩).memory :=
  laidMetH_of_parts (laidMet_of_run' 8 (by kernel_rfl) (by kernel_rfl)) (by kernel_rfl)
end Go.Proofs.YthdjicolicokcaaGreatDoor
