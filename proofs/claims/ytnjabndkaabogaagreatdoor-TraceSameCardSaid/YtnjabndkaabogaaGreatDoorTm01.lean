/-
  Small laws on memory, over any program: an append of one element, bytes to a string, what a call leaves below.
  How a law's walk becomes its row: a call that hands back true and leaves all that lay there as it was.
  How a law's walk becomes its row, where the row lists utf8's tables, and the walk asks nothing of the world.
  TraceSame: its row's closed facts, one by one.
  No function of the program starts a goroutine.
  Slices of the call's own, over any program: what they read as, what an append leaves, when two lie apart.
  What a call may write: a frame, block by block; rows of structs that the call owns.
  A slice's cells, wherever they lie.
  A whole struct stored into a fresh block; results that are structs.
  Equality of structs and of slices, whatever they are.
  Lanes, grants, marks: '=='; slices.Equal of lanes.
  trace.Same: the walks.
-/
import Derived.Test.YtnjabndkaabogaaGreatDoorRows
import Derived.WalkKit
import Derived.WalkSpells
import Derived.WalkLawsBesides
import Derived.Lib.Hide
import Derived.PlainAid
import Derived.BigQuiet
import Derived.Deep.DeepMust
import Derived.Deep.DeepFit
import Derived.Lib.QuietBelow
import Derived.Lib.OthersKept
import Derived.ProofKit
import Derived.OpenShut
import Derived.SizedLaws
import Derived.Lib.SmallJoins
import Derived.ShutString
import Derived.Test.YtnjabndkaabogaaGreatDoorCards
import Derived.Test.YtnjabndkaabogaaGreatDoorTie
import Derived.Deep.DeepHandedRow
import Derived.Shelf.Vars
import Derived.SevenTiedAt
import GoSem.ClaimGoes
import Derived.Deep.AppendLies
import Derived.Lib.SliceRun
import Derived.Laws.Rows
import Derived.Deep.WholeRow
import Derived.ChangeKeysEq
import Derived.Deep.MidRow
import Derived.Deep.RegionHeld3
import Derived.Deep.DeepCutAuto
namespace Go.Proofs.YtnjabndkaabogaaGreatDoor
open Go.RowKit
def TrueBelow (w : World) (e : Ending) (w' : World) : Prop := e = .returned (.bool true) ∧ Below w.heap.size w w'
theorem ret_bool {a b : Bool} (h : a = b) : Ending.returned (.bool a) = .returned (.bool b) := by rw [h]
theorem cell_alloc_at {w : World} {cs : Array Value} {t : TypeId} {i : Nat} {v : Value} (h : cs[i]? = some v) : (w.alloc (.cells cs t)).cell? ⟨w.heap.size, i, none⟩ = some v := by
  simp only [World.cell?, World.alloc, Array.getElem?_push_size]
  exact h
theorem ba_ext {a b : ByteArray} (h : a.data.toList = b.data.toList) : a = b := by
  obtain ⟨a⟩ := a
  obtain ⟨b⟩ := b
  simp at h
  rw [h]
theorem ba_ne {a b : ByteArray} (h : a ≠ b) : (a == b) = false := by
  rw [beq_toListBytes, ByteArray.toList_eq, ByteArray.toList_eq]
  exact beq_eq_false_iff_ne.2 fun e => h (ba_ext e)
theorem ba_list_ne {a b : ByteArray} (h : a ≠ b) : (a.toList == b.toList) = false := by rw [← beq_toListBytes]; exact ba_ne h
def bv (b : UInt8) : Value := .int .u8 (b.toNat : Int)
section
variable {P : Program}
theorem wpList_load_agg {w : World} {ops : Array Oper} {rest : List Oper} {o : Oper} {a : Act} {Q : Exit → Act → World → Prop} {g : Nat} {cs : Array Value} {t : TypeId} {fr : Nat × Nat} {d : TypeDesc} (ty : TypeId) (hg : w.heap[g]? = some (.cells cs t fr))
    (hu : P.underlying ty = some d) (hd : (match d with | .struct _ | .array _ _ => true | _ => false) = true) (hi : (P.info? ty).map (·.size) = some cs.size)
    (hw : Region.wanted o (yielded ops a.tmps) = true) (x : Operand) (ho : o.op = .load ty x) (hx : a.eval x = .pointer (some ⟨g, 0, none⟩))
    (h : wpList P ops Q rest (a.put o.dst (.agg cs)) w) : wpList P ops Q (o :: rest) a w := by
  unfold wpList
  rw [if_pos hw]
  exact .inl (wp_load_row ty x ho g hx t cs fr d hg hu hd hi h)
end
theorem cell_below {w w' : World} (hb : Below w.heap.size w w') {a : Addr} {v : Value} (h : w.cell? a = some v) : w'.cell? a = some v := by
  rw [hb.cell (World.block_lt_of_cell? w a h)]; exact h
theorem box_below {w : World} {o : Obj} : Below w.heap.size w (w.alloc o) := (Below.refl _ _).alloc (Nat.le_refl _) _
end Go.Proofs.YtnjabndkaabogaaGreatDoor
namespace Go.Proofs.YtnjabndkaabogaaGreatDoor
open Go.ChangeShapes Go.WideShapes Go.ChangeAt Go.RowKit
theorem own : ownKnob Tryz.prog.godebug = none := by kernel_rfl
theorem laidOut : laidOutB Tryz.prog = true := by kernel_rfl
section
variable {H : Type} {enc : TypeId × Value → H} {P : Program}
theorem trodAll_below (hl : laidOutB P = true) {W W' : World} (hb : Below W.heap.size W W') : ∀ (ts : List TypeId) (vs : List Value) (ds : List (DataW H)) (ps : List MemPlace),
    (∀ t, t ∈ ts → P.readableRec t = true ∧ t < P.types.size) → DataW.TrodAll enc P W 0 (fun _ => true) true ts vs ds ps → (∀ x ∈ ps, x.block < W.heap.size) →
    DataW.TrodAll enc P W' 0 (fun b => decide (b < W.heap.size)) true ts vs ds ps
  | [], vs, ds, ps, _, h, _ => by
    cases vs <;> cases ds <;> simp [DataW.TrodAll] at h ⊢
    exact h
  | t :: ts, vs, ds, ps, hr, h, hlt => by
    obtain ⟨v, vs', d, ds', p, q, rfl, rfl, rfl, h0, h1⟩ := trodAll_cons h
    obtain ⟨hr0, hr1⟩ := hr t (by simp)
    exact trodAll_cons_mk (hb.trod hl hr0 hr1 h0 (fun x hx => hlt x (List.mem_append_left _ hx)))
      (trodAll_below hl hb ts vs' ds' q (fun t ht => hr t (List.mem_cons_of_mem _ ht)) h1 (fun x hx => hlt x (List.mem_append_right _ hx)))
theorem trodAll_len : ∀ {w : World} {base : Nat} {spare : Nat → Bool} {held : Bool} (ts : List TypeId) (vs : List Value) (ds : List (DataW H)) (ps : List MemPlace), DataW.TrodAll enc P w base spare held ts vs ds ps → ds.length = ts.length
  | _, _, _, _, [], vs, ds, ps, h => by cases vs <;> cases ds <;> simp_all [DataW.TrodAll]
  | _, _, _, _, t :: ts, vs, ds, ps, h => by
    obtain ⟨v, vs', d, ds', p, q, rfl, rfl, rfl, h0, h1⟩ := trodAll_cons h
    have := trodAll_len ts vs' ds' q h1
    simp [this]
theorem law_post {f : Func} {s : ChangeSpec} {W W' : World} {args : Array Value} {ds gs : List (DataW H)} {before : List MemPlace} {tb : TypeId}
    (hl : laidOutB P = true) (hr : ∀ t, t ∈ f.params.toList → P.readableRec t = true ∧ t < P.types.size) (hv : s.vars = [])
    (hs : ∀ ds : List (DataW H), ds.length = f.params.size → s.fn H ds = { results := [.lit (.bool true)], args := ds }) (hrt : f.resultTypes = #[tb]) (hb4 : P.underlying tb = some .bool)
    (hW : DataW.Whole enc P f.params.toList s.vars false W args.toList ds gs before) (hb : Below W.heap.size W W') : s.post enc P f false true false false W args (.bool true) W' := by
  have hlt := hW.lt
  have hW' := hW
  obtain ⟨p, q, hA, hV, rfl, _, _⟩ := hW
  rw [hv] at hV
  have hg : gs = [] ∧ q = [] := by
    cases gs with
    | nil => exact ⟨rfl, by simpa [DataW.TrodVars] using hV⟩
    | cons g r => simp [DataW.TrodVars] at hV
  obtain ⟨rfl, rfl⟩ := hg
  have e1 := hs ds (by have := trodAll_len _ _ _ _ hA; simpa using this)
  simp only [List.append_nil] at hlt hW'
  refine ⟨ds, [], p, [], p, [], hW', ?_, ?_, ?_, ?_, fun h => by cases h⟩
  · rw [List.append_nil, e1, hrt]
    exact trodAll_mk1 (shut_bool hb4 _)
  · rw [List.append_nil, e1]
    exact trodAll_below hl hb _ _ _ _ hr hA hlt
  · rw [List.append_nil, e1, hv]
    simp [DataW.TrodVars]
  · exact hb.frame _
theorem reach_le {l : List Nat} (h : l.all (· ≤ reachBytes) = true) : ∀ x ∈ l, x ≤ 140737488351232 := by
  intro x hx
  have h1 := List.all_eq_true.1 h x hx
  exact of_decide_eq_true h1
end
end Go.Proofs.YtnjabndkaabogaaGreatDoor
namespace Go.Proofs.YtnjabndkaabogaaGreatDoor
open Go.ChangeShapes Go.WideShapes Go.ChangeAt Go.RowKit
section
variable {H : Type} {enc : TypeId × Value → H} {P : Program}
theorem law_contract {C : Checked} {f : FuncId} {fn : Func} {s : ChangeSpec} {ts : List TypeId} {tb : TypeId} (hC : C.prog = P)
    (hp : fn.params.toList = ts) (hl : laidOutB P = true) (hr : ∀ t, t ∈ ts → P.readableRec t = true ∧ t < P.types.size) (hv : s.vars = [])
    (hs : ∀ ds : List (DataW H), ds.length = ts.length → s.fn H ds = { results := [.lit (.bool true)], args := ds }) (hrt : fn.resultTypes = #[tb]) (hb4 : P.underlying tb = some .bool)
    {W : World} {base : Nat} {args : Array Value} {ds gs : List (DataW H)} {before : List MemPlace}
    (hval : ∀ (j : Nat) t v, fn.params[j]? = some t → args[j]? = some v → Value.okWide C.prog W .any base t v)
    (hW : DataW.Whole enc C.prog fn.params.toList s.vars false W args.toList ds gs before)
    (hz : (DataW.weightsEach C.prog (fn.params.toList ++ []) (ds ++ gs)).all (· ≤ reachBytes) = true)
    (walk : ∀ (args : List Value) (ps : List MemPlace), (∀ (j : Nat) t v, ts[j]? = some t → args[j]? = some v → Value.okWide P W .any base t v) →
      DataW.TrodAll enc P W 0 (fun _ => true) true ts args ds ps → (∀ x ∈ DataW.weightsEach P ts ds, x ≤ 140737488351232) → Calls P f args.toArray W fun e W' => e = .returned (.bool true) ∧ Below W.heap.size W W') :
    Calls C.prog f args W fun e W' => ∃ v, e = .returned v ∧ s.post enc C.prog fn false true false false W args v W' := by
  subst hC
  have hW' := hW
  obtain ⟨p, q, hA, hV, rfl, _, _⟩ := hW
  have hg : gs = [] := by
    rw [hv] at hV
    cases gs with
    | nil => rfl
    | cons g r => simp [DataW.TrodVars] at hV
  subst hg
  rw [List.append_nil, List.append_nil, hp] at hz
  rw [hp] at hA
  have hval' : ∀ (j : Nat) t v, ts[j]? = some t → args.toList[j]? = some v → Value.okWide C.prog W .any base t v := fun j t v h1 h2 => hval j t v (by rw [← hp] at h1; simpa using h1) (by simpa using h2)
  refine (walk args.toList p hval' hA (reach_le hz)).mono fun e W' ⟨he, hb⟩ => ?_
  exact ⟨_, he, law_post hl (by rw [hp]; exact hr) hv (fun ds h => hs ds (by rw [h, ← hp]; simp)) hrt hb4 hW' hb⟩
end
def flat1 : DataW Unit → List Value
  | .agg l => l.filterMap fun | .lit (.int k x) => some (.int k x) | _ => none
  | _ => []
def flat2 : DataW Unit → List Value
  | .agg l => l.flatMap flat1
  | _ => []
def layIn (cs : Array Value) : Obj → Obj
  | .cells _ t frozen => .cells cs t frozen
  | o => o
noncomputable def laidWorld (os : Os) : World :=
  { World.holding Tryz.prog os ⟨#[], #[], []⟩ with heap := ((World.holding Tryz.prog os ⟨#[], #[], []⟩).heap.modify 2 (layIn (flat2 Rows.laid_unicode_utf8_acceptRanges).toArray)).modify 1 (layIn (flat1 Rows.laid_unicode_utf8_first).toArray) }
theorem laid_met (os : Os) (args : Array Value) : laidMet Tryz.prog Rows.traceSameRow.laid ((laidWorld os).forCall (fun _ _ => 0) ⟨#[], args, []⟩).memory :=
  laidMet_of_run' 8 (by kernel_rfl) (by kernel_rfl)
end Go.Proofs.YtnjabndkaabogaaGreatDoor
namespace Go.Proofs.YtnjabndkaabogaaGreatDoor.traceSame
open Go.RowKit Go.Proofs.YtnjabndkaabogaaGreatDoor
theorem jf0 : (Rows.traceSameRow.wf (OpenSpec.ofChange (OpenSpec.ofChange Rows.traceSameSpec).bare)) = true := by kernel_rfl
theorem jf1 : (laidOutB Tryz.pinned.checked.prog) = true := by kernel_rfl
theorem jf2 : (mapsRowed Tryz.pinned.checked.prog) = true := by kernel_rfl
theorem jf3 : (Tryz.f3.params.all (Tryz.pinned.checked.prog.readableRec ·)) = true := by kernel_rfl
theorem jf4 : (namedTie Tryz.pinned.checked.prog Rows.traceSameRow.named (OpenSpec.ofChange Rows.traceSameSpec).bare.vars) = true := by kernel_rfl
theorem jf5 : ((Rows.traceSameRow.stops == [])) = true := by kernel_rfl
theorem jf6 : ((Tryz.pinned.checked.prog.stops == [])) = true := by kernel_rfl
theorem jf7 : ((Rows.traceSameRow.knobs == [])) = true := by kernel_rfl
theorem jf8 : ((Tryz.pinned.checked.prog.stopKnobs == [])) = true := by kernel_rfl
theorem jf9 : ((Rows.traceSameRow.inPlace == Tryz.pinned.checked.prog.inPlace 3)) = true := by kernel_rfl
theorem jf10 : ((Rows.traceSameRow.unfollowed == Tryz.pinned.checked.prog.unfollowed 3)) = true := by kernel_rfl
theorem jf11 : ((Rows.traceSameRow.recurses == Tryz.pinned.checked.prog.recurses 3)) = true := by kernel_rfl
theorem jf12 : ((Rows.traceSameRow.named == Tryz.pinned.checked.prog.varsNamed 3)) = true := by kernel_rfl
theorem jf13 : ((Rows.traceSameRow.maps == (Tryz.f3.params.toList ++ (OpenSpec.ofChange Rows.traceSameSpec).bare.plain.varTypes Tryz.pinned.checked.prog).any (Tryz.pinned.checked.prog.mapsRec ·))) = true := by kernel_rfl
theorem jf14 : ((Rows.traceSameRow.ifaces == (Tryz.f3.params.toList ++ (OpenSpec.ofChange Rows.traceSameSpec).bare.plain.varTypes Tryz.pinned.checked.prog).any (Tryz.pinned.checked.prog.ifacesRec ·))) = true := by kernel_rfl
theorem jf15 : ((Rows.traceSameRow.mapsOut == Tryz.pinned.checked.prog.mapsAmong Tryz.f3.resultTypes.toList)) = true := by kernel_rfl
theorem jf16 : ((Rows.traceSameRow.loops == (Tryz.f3.params.toList ++ (OpenSpec.ofChange Rows.traceSameSpec).bare.plain.varTypes Tryz.pinned.checked.prog).any (Tryz.pinned.checked.prog.loopsFrom ·))) = true := by kernel_rfl
theorem jf17 : ((Rows.traceSameRow.wideKeys == (Tryz.f3.params.toList ++ (OpenSpec.ofChange Rows.traceSameSpec).bare.plain.varTypes Tryz.pinned.checked.prog ++ Tryz.f3.resultTypes.toList).any (Tryz.pinned.checked.prog.wideKeysFrom ·))) = true := by kernel_rfl
theorem jf18 : ((OpenSpec.ofChange Rows.traceSameSpec).bare.vars.all (Tryz.pinned.checked.prog.varReadable ·)) = true := by kernel_rfl
theorem jf19 : (Tryz.f3.resultTypes.all (fun t => Tryz.pinned.checked.prog.readableRec t && decide (t < Tryz.pinned.checked.prog.types.size))) = true := by kernel_rfl
theorem jf20 : ((Rows.traceSameRow.ifacesOut == Tryz.f3.resultTypes.toList.any (Tryz.pinned.checked.prog.ifacesRec ·))) = true := by kernel_rfl
theorem jf21 : ((Rows.traceSameRow.loopsOut == Tryz.f3.resultTypes.toList.any (Tryz.pinned.checked.prog.loopsFrom ·))) = true := by kernel_rfl
theorem jf22 : ((Rows.traceSameRow.plainKeys == Tryz.pinned.checked.prog.plainKeys)) = true := by kernel_rfl
theorem jf23 : (Rows.traceSameRow.shortTexts.isNone) = true := by kernel_rfl
theorem jf24 : (Tryz.pinned.checked.prog.stopsHeard) = true := by kernel_rfl
theorem jf25 : (Tryz.pinned.checked.prog.mayEnter) = true := by kernel_rfl
theorem jf26 : ((Rows.traceSameRow.lifted == Tryz.pinned.checked.prog.liftsFinal)) = true := by kernel_rfl
theorem jf27 : ((Tryz.pinned.checked.prog.make == some Rows.traceSameRow.make)) = true := by kernel_rfl
theorem jf28 : ((Rows.traceSameRow.kinds == (if Rows.traceSameRow.domain.isEmpty then [] else Tryz.f3.params.toList.map fun t => match Tryz.pinned.checked.prog.underlying t with | some (.int k) => some k | _ => none))) = true := by kernel_rfl
theorem jf29 : ((Rows.traceSameRow.pinned == Rows.traceSameRow.pinnedBy)) = true := by kernel_rfl
theorem jf30 : ((Rows.traceSameRow.veiled == (Tryz.f3.params.toList ++ (OpenSpec.ofChange Rows.traceSameSpec).bare.plain.varTypes Tryz.pinned.checked.prog ++ Tryz.f3.resultTypes.toList).any (Tryz.pinned.checked.prog.veiledRec ·))) = true := by kernel_rfl
theorem jf31 : (Rows.traceSameRow.veiledFits Tryz.pinned.checked.prog Tryz.f3.params.toList (Tryz.f3.params.toList ++ (OpenSpec.ofChange Rows.traceSameSpec).bare.plain.varTypes Tryz.pinned.checked.prog ++ Tryz.f3.resultTypes.toList)) = true := by kernel_rfl
theorem jfand {a b : Bool} (h1 : a = true) (h2 : b = true) : (a && b) = true := by rw [h1, h2]; rfl
set_option maxRecDepth 100000 in
theorem facts : joinedFacts Tryz.pinned.checked.prog 3 Tryz.f3 (OpenSpec.ofChange Rows.traceSameSpec).bare Rows.traceSameRow = true := by
  unfold joinedFacts
  exact jfand (jfand (jfand (jfand (jfand (jfand (jfand (jfand (jfand (jfand (jfand (jfand (jfand (jfand (jfand (jfand (jfand (jfand (jfand (jfand (jfand (jfand (jfand (jfand (jfand (jfand (jfand (jfand (jfand (jfand (jfand (jf0) jf1) jf2) jf3) jf4) jf5) jf6) jf7) jf8) jf9) jf10) jf11) jf12) jf13) jf14) jf15) jf16) jf17) jf18) jf19) jf20) jf21) jf22) jf23) jf24) jf25) jf26) jf27) jf28) jf29) jf30) jf31
end Go.Proofs.YtnjabndkaabogaaGreatDoor.traceSame
namespace Go.Proofs.YtnjabndkaabogaaGreatDoor
open Go
theorem goes_not {P : Program} (h : P.funcs.toList.any Func.goes = false) {c : OpenClaim} (hs : c.start = .entering) : false = c.goesBy P := by
  have one : ∀ g : Nat, (P.funcs[g]?).any Func.goes = false := fun g => by
    cases hg : P.funcs[g]? with
    | none => rfl
    | some fn =>
      have hm : fn ∈ P.funcs.toList := Array.mem_toList_iff.2 (Array.mem_of_getElem? hg)
      have := List.any_eq_false.1 h fn hm
      simpa using this
  have all : ∀ f : FuncId, P.goes f = false := fun f => by
    unfold Program.goes
    have h1 : ((P.closure f).any fun g => (P.funcs[g]?).any Func.goes) = false := by
      first
        | (rw [List.any_eq_false]; intro g _; rw [one g]; decide)
        | (rw [Array.any_eq_false]; intro g _; rw [one _]; decide)
    have h2 : P.funcs.any Func.goes = false := by rw [← Array.any_toList]; exact h
    rw [h1, h2, Bool.and_false, Bool.or_false]
  unfold OpenClaim.goesBy Program.goesAt Program.goesFrom
  rw [hs]
  cases P.funcNamed c.func with
  | none => rfl
  | some f => simp [all f]
theorem no_goes : Tryz.prog.funcs.toList.any Func.goes = false := by kernel_rfl
end Go.Proofs.YtnjabndkaabogaaGreatDoor
namespace Go.Proofs.YtnjabndkaabogaaGreatDoor
open Go.RowKit
def Apart (v u : Value) : Prop := ∀ g, v.ownBlock = some g → u.ownBlock ≠ some g
theorem Apart.symm {v u : Value} (h : Apart v u) : Apart u v := fun g h1 h2 => h g h2 h1
theorem apart_new {w : World} {b size n : Nat} {e : TypeId} {v : Value} {xs : List Value} (h : w.ownsRow b e size v n xs) {g m cap : Nat} (hg : w.heap.size ≤ g) : Apart (.slice (some ⟨g, 0, none⟩) m cap) v := by
  intro j hj h2
  simp only [Value.ownBlock, Option.some.injEq] at hj
  subst hj
  obtain ⟨_, ⟨rfl, _⟩ | ⟨g', cap', cur, rfl, _, hb, _⟩⟩ := h
  · cases h2
  · simp only [Value.ownBlock, Option.some.injEq] at h2
    subst h2
    have := (Array.getElem?_eq_some_iff.1 hb).1
    omega
theorem Apart.append {w : World} {b size n : Nat} {e : TypeId} {u v : Value} {xs : List Value} {g m cap : Nat} (h : Apart v u) (hu : w.ownsRow b e size u n xs) (hat : v.ownBlock = some g ∨ w.heap.size ≤ g) : Apart (.slice (some ⟨g, 0, none⟩) m cap) u := by
  rcases hat with hv | hg
  · intro j hj
    simp only [Value.ownBlock, Option.some.injEq] at hj
    subst hj
    exact h _ hv
  · exact apart_new hu hg
end Go.Proofs.YtnjabndkaabogaaGreatDoor
namespace Go.Proofs.YtnjabndkaabogaaGreatDoor
open Go.RowKit
structure Fr (S : List Nat) (w w' : World) : Prop where
  os : w'.os = w.os
  tape : w'.tape = w.tape
  output : w'.output = w.output
  size : w.heap.size ≤ w'.heap.size
  block : ∀ k, k < w.heap.size → k ∉ S → w'.heap[k]? = w.heap[k]?
theorem Fr.refl (S : List Nat) (w : World) : Fr S w w := ⟨rfl, rfl, rfl, Nat.le_refl _, fun _ _ _ => rfl⟩
theorem Fr.trans {S S' : List Nat} {w w1 w2 : World} (h : Fr S w w1) (h' : Fr S' w1 w2) (hs : ∀ k ∈ S', k ∈ S ∨ w.heap.size ≤ k) : Fr S w w2 :=
  ⟨h'.os.trans h.os, h'.tape.trans h.tape, h'.output.trans h.output, Nat.le_trans h.size h'.size, fun k hk hn => (h'.block k (Nat.lt_of_lt_of_le hk h.size) (fun hm => by
    rcases hs k hm with h1 | h1
    · exact hn h1
    · omega)).trans (h.block k hk hn)⟩
theorem Fr.of_below {S : List Nat} {w w' : World} (h : Below w.heap.size w w') : Fr S w w' := ⟨h.os, h.tape, h.output, h.size, fun k hk _ => h.block k hk⟩
theorem Fr.below {S : List Nat} {B : Nat} {w w' : World} (h : Fr S w w') (hB : B ≤ w.heap.size) (hS : ∀ k ∈ S, B ≤ k) : Below B w w' :=
  ⟨h.os, h.tape, h.output, h.size, fun k hk => h.block k (by omega) (fun hm => by have := hS k hm; omega)⟩
theorem Fr.then_below {S : List Nat} {w w1 w2 : World} (h : Fr S w w1) (h' : Below w1.heap.size w1 w2) : Fr S w w2 := h.trans (S' := []) (Fr.of_below h') (fun k hk => by cases hk)
theorem Fr.mono {S S' : List Nat} {w w' : World} (h : Fr S w w') (hs : ∀ k ∈ S, k ∈ S') : Fr S' w w' := ⟨h.os, h.tape, h.output, h.size, fun k hk hn => h.block k hk (fun hm => hn (hs k hm))⟩
theorem Fr.drew {S : List Nat} {w w' : World} (h : Fr S w w') : Fr S w w'.drew := ⟨h.os, h.tape, h.output, h.size, h.block⟩
theorem Fr.alloc {S : List Nat} {w w' : World} (h : Fr S w w') (o : Obj) : Fr S w (w'.alloc o) := h.then_below ((Below.refl _ _).alloc (Nat.le_refl _) _)
theorem Fr.setCell {S : List Nat} {w w' : World} (h : Fr S w w') {p : Addr} (hp : p.block ∈ S ∨ w.heap.size ≤ p.block) (u : Value) : Fr S w (w'.setCell p u) :=
  h.trans (S' := [p.block]) ⟨rfl, rfl, rfl, by simp [World.setCell], fun k _ hn => Below.heap_setCell _ _ _ _ (fun e => hn (by simp [e]))⟩ (fun k hk => by
    rw [List.mem_singleton] at hk
    subst hk
    exact hp)
theorem Fr.cell {S : List Nat} {w w' : World} (h : Fr S w w') {a : Addr} {v : Value} (hc : w.cell? a = some v) (hS : a.block ∉ S) : w'.cell? a = some v := by
  rw [World.cell?_of_block (w := w) (h.block a.block (World.block_lt_of_cell? w a hc) hS)]
  exact hc
theorem Fr.heap {S : List Nat} {w w' : World} (h : Fr S w w') {k : Nat} {o : Obj} (hc : w.heap[k]? = some o) (hS : k ∉ S) : w'.heap[k]? = some o :=
  (h.block k (Array.getElem?_eq_some_iff.1 hc).1 hS).trans hc
theorem fr_cell_of_heap {w : World} {g i : Nat} {cs : Array Value} {t : TypeId} {fr : Nat × Nat} {v : Value} (h : w.heap[g]? = some (.cells cs t fr)) (hi : cs[i]? = some v) : w.cell? ⟨g, i, none⟩ = some v := by
  simp [World.cell?, h, hi]
theorem fr_alloc_old {w : World} {o p : Obj} {k : Nat} (h : w.heap[k]? = some p) : (w.alloc o).heap[k]? = some p := by
  rw [Below.heap_alloc _ _ _ (Array.getElem?_eq_some_iff.1 h).1]
  exact h
/-! ### Rows of structs -/
section
variable {α : Type} (enc : α → List Value) (K : Nat) (hK : ∀ x, (enc x).length = K)
theorem flat_len (hK : ∀ x, (enc x).length = K) : ∀ l : List α, (l.flatMap enc).length = l.length * K
  | [] => by simp
  | x :: r => by rw [List.flatMap_cons, List.length_append, flat_len hK r, hK, List.length_cons, Nat.succ_mul]; omega
theorem flat_at (hK : ∀ x, (enc x).length = K) : ∀ {l : List α} {j : Nat} {x : α} (i : Nat), l[j]? = some x → i < K → (l.flatMap enc)[j * K + i]? = (enc x)[i]?
  | [], _, _, _, h, _ => by simp at h
  | y :: r, 0, x, i, h, hi => by
    simp at h
    subst h
    rw [List.flatMap_cons, List.getElem?_append_left (by rw [hK]; omega)]
    simp
  | y :: r, j + 1, x, i, h, hi => by
    have ih := flat_at hK (l := r) (j := j) i (by simpa using h) hi
    rw [List.flatMap_cons, List.getElem?_append_right (by rw [hK, Nat.succ_mul]; omega), hK, ← ih]
    congr 1
    rw [Nat.succ_mul]
    omega
end
end Go.Proofs.YtnjabndkaabogaaGreatDoor
namespace Go.Proofs.YtnjabndkaabogaaGreatDoor
open Go.RowKit
def SlAt (w : World) (v : Value) (n : Nat) (us : List Value) : Prop := ∃ a cap, v = .slice a n cap ∧ n ≤ cap ∧ ∀ (j : Nat) u, us[j]? = some u → ∃ g off, a = some ⟨g, off, none⟩ ∧ w.cell? ⟨g, off + j, none⟩ = some u
theorem SlAt.form {w : World} {v : Value} {n : Nat} {us : List Value} (h : SlAt w v n us) : ∃ a cap, v = .slice a n cap ∧ n ≤ cap := by
  obtain ⟨a, cap, hv, hle, _⟩ := h
  exact ⟨a, cap, hv, hle⟩
theorem SlAt.below {w w' : World} {v : Value} {n : Nat} {us : List Value} (h : SlAt w v n us) (hb : Below w.heap.size w w') : SlAt w' v n us := by
  obtain ⟨a, cap, rfl, hle, hc⟩ := h
  exact ⟨a, cap, rfl, hle, fun j u hu => by obtain ⟨g, off, ha, h0⟩ := hc j u hu; exact ⟨g, off, ha, cell_below hb h0⟩⟩
theorem SlAt.at {α : Type} {enc : α → List Value} {K : Nat} {w : World} {v : Value} {l : List α} (h : SlAt w v l.length (l.flatMap enc)) (hK : ∀ x, (enc x).length = K) (h0 : 0 < K) {k : Nat} {x : α} (hx : l[k]? = some x) : ∃ g off cap, v = .slice (some ⟨g, off, none⟩) l.length cap ∧ l.length ≤ cap ∧ ∀ i u, (enc x)[i]? = some u → w.cell? ⟨g, off + k * K + i, none⟩ = some u := by
  obtain ⟨a, cap, rfl, hle, hc⟩ := h
  have key : ∀ i u, (enc x)[i]? = some u → (l.flatMap enc)[k * K + i]? = some u := fun i u hu => by
    have hi : i < K := by rw [← hK x]; exact (List.getElem?_eq_some_iff.1 hu).1
    rw [flat_at enc K hK i hx hi]
    exact hu
  obtain ⟨g, off, rfl, _⟩ := hc _ _ (key 0 _ (List.getElem?_eq_getElem (by rw [hK]; exact h0)))
  refine ⟨g, off, cap, rfl, hle, fun i u hu => ?_⟩
  obtain ⟨g', off', he, h1⟩ := hc _ _ (key i u hu)
  cases he
  rw [Nat.add_assoc]
  exact h1
end Go.Proofs.YtnjabndkaabogaaGreatDoor
namespace Go.Proofs.YtnjabndkaabogaaGreatDoor
open Go.RowKit
theorem wp_store_new {P : Program} {o : Oper} {a : Act} {w : World} {K : Act → World → Prop} {Q : Exit → Act → World → Prop} (ty : TypeId) (x y : Operand) (ho : o.op = .store ty x y)
    (g : Nat) (hgs : g = w.heap.size) (cells old : Array Value) (hx : a.eval x = .pointer (some ⟨g, 0, none⟩)) (hy : a.eval y = .agg cells) (t : TypeId)
    (hi : (P.info? ty).map (·.size) = some cells.size) (hold : old.size = cells.size) (h1 : cells.all (·.oneCell') = true)
    (h : K (a.put o.dst undef) (w.alloc (.cells cells t))) : o.wp P a (w.alloc (.cells old t)) K Q := by
  subst hgs
  refine wp_store_row ty x y ho w.heap.size cells hx hy t old (heap_alloc_new w _) hi hold h1 ?_
  rw [World.setRow_alloc_new]
  exact h
theorem heap_alloc_two (w : World) (a b : Obj) : ((w.alloc a).alloc b).heap[w.heap.size + 1]? = some b := by
  have h := heap_alloc_new (w.alloc a) b
  rwa [show (w.alloc a).heap.size = w.heap.size + 1 by simp] at h
theorem wpList_store_new {P : Program} {ops : Array Oper} {rest : List Oper} {o : Oper} {a : Act} {w : World} {Q : Exit → Act → World → Prop} {old : Array Value} {t : TypeId} (hgd : o.guard = none) (ty : TypeId) (x y : Operand) (ho : o.op = .store ty x y)
    (g : Nat) (hgs : g = w.heap.size) (cells : Array Value) (hx : a.eval x = .pointer (some ⟨g, 0, none⟩)) (hy : a.eval y = .agg cells)
    (hi : (P.info? ty).map (·.size) = some cells.size) (hold : old.size = cells.size) (h1 : cells.all (·.oneCell') = true)
    (h : wpList P ops Q rest (a.put o.dst undef) (w.alloc (.cells cells t))) : wpList P ops Q (o :: rest) a (w.alloc (.cells old t)) :=
  wpList_plain hgd fun _ hK => wp_store_new ty x y ho g hgs cells old hx hy t hi hold h1 (hK _ _ h)
section
variable {P : Program}
end
end Go.Proofs.YtnjabndkaabogaaGreatDoor
namespace Go.Proofs.YtnjabndkaabogaaGreatDoor
open Go.RowKit
def BoolPost (b : Bool) (w : World) (e : Ending) (w' : World) : Prop := e = .returned (.bool b) ∧ Below w.heap.size w w'
def EqPart (P : Program) (d : Nat) (xs ys : Array Value) (w : World) (f : Field) (b : Bool) : Prop :=
  f.name ≠ "_" ∧ ∃ u v, (part f.type xs f.offset).run P w = .ok u w ∧ (part f.type ys f.offset).run P w = .ok v w ∧ (Op.equalIn d f.type u v).run P w = .ok b w
def EqParts (P : Program) (d : Nat) (xs ys : Array Value) (w : World) : List Field → List Bool → Prop
  | [], [] => True
  | f :: fs, b :: bs => EqPart P d xs ys w f b ∧ EqParts P d xs ys w fs bs
  | _, _ => False
theorem eqFields_flat {P : Program} (d : Nat) (xs ys : Array Value) (w : World) : ∀ (fs : List Field) (bs : List Bool), EqParts P d xs ys w fs bs → (Op.eqFields d xs ys fs).run P w = .ok (bs.all id) w
  | [], [], _ => by simp [Op.eqFields]
  | f :: fs, b :: bs, ⟨⟨hn, u, v, h1, h2, h3⟩, h⟩ => by
    have ih := eqFields_flat d xs ys w fs bs h
    rw [Op.eqFields]
    split
    · simp only [Sem.run_bind, h1, h2, Result.andThen_ok, h3]
      cases b
      · simp
      · simp only [Bool.not_true, Bool.false_eq_true, if_false]
        rw [ih]
        simp
    · rename_i hc
      exact absurd hn (by simpa using hc)
theorem ba_list_inj {a b : ByteArray} (h : a.toList = b.toList) : a = b := by
  by_cases e : a = b
  · exact e
  · have := ba_list_ne e
    rw [h] at this
    simp at this
def eqL {α : Type} (e : α → α → Bool) : List α → List α → Bool
  | [], [] => true
  | x :: xs, y :: ys => e x y && eqL e xs ys
  | _, _ => false
theorem eqL_len {α : Type} {e : α → α → Bool} : ∀ {l m : List α}, l.length ≠ m.length → eqL e l m = false
  | [], [], h => absurd rfl h
  | [], _ :: _, _ => rfl
  | _ :: _, [], _ => rfl
  | x :: xs, y :: ys, h => by
    have := eqL_len (e := e) (l := xs) (m := ys) (fun hh => h (by simp [hh]))
    simp [eqL, this]
theorem eqL_at {α : Type} {e : α → α → Bool} : ∀ {l m : List α} {k : Nat} {x y : α}, l[k]? = some x → m[k]? = some y → e x y = false → eqL e l m = false
  | [], _, _, _, _, h, _, _ => by simp at h
  | _ :: _, [], _, _, _, _, h, _ => by simp at h
  | x :: xs, y :: ys, 0, _, _, h1, h2, h => by
    simp at h1 h2
    subst h1 h2
    simp [eqL, h]
  | x :: xs, y :: ys, k + 1, _, _, h1, h2, h => by
    have := eqL_at (e := e) (l := xs) (m := ys) (k := k) (by simpa using h1) (by simpa using h2) h
    simp [eqL, this]
theorem eqL_all {α : Type} {e : α → α → Bool} : ∀ {l m : List α}, l.length = m.length → (∀ (k : Nat) x y, l[k]? = some x → m[k]? = some y → e x y = true) → eqL e l m = true
  | [], [], _, _ => rfl
  | [], _ :: _, h, _ => by simp at h
  | _ :: _, [], h, _ => by simp at h
  | x :: xs, y :: ys, h, h2 => by
    have := eqL_all (e := e) (l := xs) (m := ys) (by simpa using h) (fun k x y a b => h2 (k + 1) x y (by simpa using a) (by simpa using b))
    simp [eqL, this, h2 0 x y rfl rfl]
theorem eqL_self {α : Type} {e : α → α → Bool} (h : ∀ x, e x x = true) (l : List α) : eqL e l l = true := eqL_all rfl fun k x y a b => by
  obtain rfl := Option.some.inj (a.symm.trans b)
  exact h x
def EqRel {α : Type} (e : α → α → Bool) (l m : List α) (w : World) (i : Value) (wr : World) : Prop := ∃ k : Nat, i = .int .i64 k ∧ k ≤ l.length ∧ (∀ (j : Nat) x y, j < k → l[j]? = some x → m[j]? = some y → e x y = true) ∧ Below w.heap.size w wr
theorem eqRel_snoc {α : Type} {e : α → α → Bool} {l m : List α} {k : Nat} {a b : α} (h : ∀ (j : Nat) x y, j < k → l[j]? = some x → m[j]? = some y → e x y = true) (ha : l[k]? = some a) (hb : m[k]? = some b) (hab : e a b = true) : ∀ (j : Nat) x y, j < k + 1 → l[j]? = some x → m[j]? = some y → e x y = true := by
  intro j x y hj hx hy
  rcases Nat.lt_or_ge j k with hlt | hge
  · exact h j x y hlt hx hy
  · obtain rfl : j = k := by omega
    obtain rfl := Option.some.inj (ha.symm.trans hx)
    obtain rfl := Option.some.inj (hb.symm.trans hy)
    exact hab
end Go.Proofs.YtnjabndkaabogaaGreatDoor
namespace Go.Proofs.YtnjabndkaabogaaGreatDoor
open Go.RowKit
structure Gr where
  need : ByteArray
  cls : Int
  ten : Int
  inv : Int
  id : Int
  cost : Int
structure La where
  need : ByteArray
  cls : Int
  ten : Int
  inv : Int
  tw : Int
  iw : Int
  n : Int
  out : Int
def grA (x : Gr) : Array Value := #[.string x.need, .int .i64 x.cls, .int .i64 x.ten, .int .i64 x.inv, .int .i64 x.id, .int .i64 x.cost]
def laA (x : La) : Array Value := #[.string x.need, .int .i64 x.cls, .int .i64 x.ten, .int .i64 x.inv, .int .i64 x.tw, .int .i64 x.iw, .int .i64 x.n, .int .i64 x.out]
def eqGr (x y : Gr) : Bool := ([(x.need.toList == y.need.toList), (x.cls == y.cls), (x.ten == y.ten), (x.inv == y.inv), (x.id == y.id), (x.cost == y.cost)] : List Bool).all id
theorem eqGr_iff {x y : Gr} : eqGr x y = true ↔ x = y := by
  constructor
  · intro h
    obtain ⟨x0, x1, x2, x3, x4, x5⟩ := x
    obtain ⟨y0, y1, y2, y3, y4, y5⟩ := y
    simp only [eqGr, List.all_cons, List.all_nil, id, Bool.and_eq_true, Bool.and_true, beq_iff_eq] at h
    obtain ⟨h0, h1, h2, h3, h4, h5⟩ := h
    have h0 := ba_list_inj h0
    subst h0 h1 h2 h3 h4 h5
    rfl
  · rintro rfl
    simp [eqGr]
theorem run_eqGr (d : Nat) (x y : Gr) (w : World) : (Op.equalIn (d + 2) 28 (.agg (grA x)) (.agg (grA y))).run Tryz.prog w = .ok (eqGr x y) w := by
  rw [run_equalIn_agg w (d + 1) 28 _ _ (by kernel_rfl) (by kernel_rfl)]
  refine eqFields_flat _ _ _ _ _ _ ?_
  simp only [Program.fieldsOf, Tryz.underlying28]
  exact ⟨⟨by decide, (.string x.need), (.string y.need), by (simp only [grA]; go_simp), by (simp only [grA]; go_simp), by (go_simp; try simp)⟩, ⟨⟨by decide, (.int .i64 x.cls), (.int .i64 y.cls), by (simp only [grA]; go_simp), by (simp only [grA]; go_simp), by (go_simp; try simp)⟩, ⟨⟨by decide, (.int .i64 x.ten), (.int .i64 y.ten), by (simp only [grA]; go_simp), by (simp only [grA]; go_simp), by (go_simp; try simp)⟩, ⟨⟨by decide, (.int .i64 x.inv), (.int .i64 y.inv), by (simp only [grA]; go_simp), by (simp only [grA]; go_simp), by (go_simp; try simp)⟩, ⟨⟨by decide, (.int .i64 x.id), (.int .i64 y.id), by (simp only [grA]; go_simp), by (simp only [grA]; go_simp), by (go_simp; try simp)⟩, ⟨⟨by decide, (.int .i64 x.cost), (.int .i64 y.cost), by (simp only [grA]; go_simp), by (simp only [grA]; go_simp), by (go_simp; try simp)⟩, trivial⟩⟩⟩⟩⟩⟩
theorem guardGr : Tryz.prog.eqGuardType Tryz.prog.depth 28 = false := by kernel_rfl
theorem exec_eqGr {a : Act} {op : Oper} {x y : Gr} {tr : TypeId} (s t : Operand) (ho : op.op = .binOp .eql 28 s t tr) (hx : a.eval s = .agg (grA x)) (hy : a.eval t = .agg (grA y)) (w : World) : (execOp a.eval op).run Tryz.prog w = .ok (.value (.bool (eqGr x y))) w := by
  simp only [execOp, ho, hx, hy, Sem.run_bind, run_eqGuard_agg _ _ _ _ _ _ _ guardGr, Result.andThen_ok, run_eql_struct, show (10000 : Nat) = 9998 + 2 from rfl, run_eqGr]
  rfl
theorem exec_neGr {a : Act} {op : Oper} {x y : Gr} {tr : TypeId} (s t : Operand) (ho : op.op = .binOp .neq 28 s t tr) (hx : a.eval s = .agg (grA x)) (hy : a.eval t = .agg (grA y)) (w : World) : (execOp a.eval op).run Tryz.prog w = .ok (.value (.bool (!eqGr x y))) w := by
  simp only [execOp, ho, hx, hy, Sem.run_bind, run_eqGuard_agg _ _ _ _ _ _ _ guardGr, Result.andThen_ok, run_neq_struct, show (10000 : Nat) = 9998 + 2 from rfl, run_eqGr]
  rfl
def eqLa (x y : La) : Bool := ([(x.need.toList == y.need.toList), (x.cls == y.cls), (x.ten == y.ten), (x.inv == y.inv), (x.tw == y.tw), (x.iw == y.iw), (x.n == y.n), (x.out == y.out)] : List Bool).all id
theorem eqLa_iff {x y : La} : eqLa x y = true ↔ x = y := by
  constructor
  · intro h
    obtain ⟨x0, x1, x2, x3, x4, x5, x6, x7⟩ := x
    obtain ⟨y0, y1, y2, y3, y4, y5, y6, y7⟩ := y
    simp only [eqLa, List.all_cons, List.all_nil, id, Bool.and_eq_true, Bool.and_true, beq_iff_eq] at h
    obtain ⟨h0, h1, h2, h3, h4, h5, h6, h7⟩ := h
    have h0 := ba_list_inj h0
    subst h0 h1 h2 h3 h4 h5 h6 h7
    rfl
  · rintro rfl
    simp [eqLa]
theorem run_eqLa (d : Nat) (x y : La) (w : World) : (Op.equalIn (d + 2) 49 (.agg (laA x)) (.agg (laA y))).run Tryz.prog w = .ok (eqLa x y) w := by
  rw [run_equalIn_agg w (d + 1) 49 _ _ (by kernel_rfl) (by kernel_rfl)]
  refine eqFields_flat _ _ _ _ _ _ ?_
  simp only [Program.fieldsOf, Tryz.underlying49]
  exact ⟨⟨by decide, (.string x.need), (.string y.need), by (simp only [laA]; go_simp), by (simp only [laA]; go_simp), by (go_simp; try simp)⟩, ⟨⟨by decide, (.int .i64 x.cls), (.int .i64 y.cls), by (simp only [laA]; go_simp), by (simp only [laA]; go_simp), by (go_simp; try simp)⟩, ⟨⟨by decide, (.int .i64 x.ten), (.int .i64 y.ten), by (simp only [laA]; go_simp), by (simp only [laA]; go_simp), by (go_simp; try simp)⟩, ⟨⟨by decide, (.int .i64 x.inv), (.int .i64 y.inv), by (simp only [laA]; go_simp), by (simp only [laA]; go_simp), by (go_simp; try simp)⟩, ⟨⟨by decide, (.int .i64 x.tw), (.int .i64 y.tw), by (simp only [laA]; go_simp), by (simp only [laA]; go_simp), by (go_simp; try simp)⟩, ⟨⟨by decide, (.int .i64 x.iw), (.int .i64 y.iw), by (simp only [laA]; go_simp), by (simp only [laA]; go_simp), by (go_simp; try simp)⟩, ⟨⟨by decide, (.int .i64 x.n), (.int .i64 y.n), by (simp only [laA]; go_simp), by (simp only [laA]; go_simp), by (go_simp; try simp)⟩, ⟨⟨by decide, (.int .i64 x.out), (.int .i64 y.out), by (simp only [laA]; go_simp), by (simp only [laA]; go_simp), by (go_simp; try simp)⟩, trivial⟩⟩⟩⟩⟩⟩⟩⟩
theorem guardLa : Tryz.prog.eqGuardType Tryz.prog.depth 49 = false := by kernel_rfl
theorem exec_neLa {a : Act} {op : Oper} {x y : La} {tr : TypeId} (s t : Operand) (ho : op.op = .binOp .neq 49 s t tr) (hx : a.eval s = .agg (laA x)) (hy : a.eval t = .agg (laA y)) (w : World) : (execOp a.eval op).run Tryz.prog w = .ok (.value (.bool (!eqLa x y))) w := by
  simp only [execOp, ho, hx, hy, Sem.run_bind, run_eqGuard_agg _ _ _ _ _ _ _ guardLa, Result.andThen_ok, run_neq_struct, show (10000 : Nat) = 9998 + 2 from rfl, run_eqLa]
  rfl
theorem la_info : (Tryz.prog.info? 49).map (·.size) = some 8 := by kernel_rfl
theorem gr_info : (Tryz.prog.info? 28).map (·.size) = some 6 := by kernel_rfl
def encLa (x : La) : List Value := (laA x).toList
theorem encLa_len (x : La) : (encLa x).length = 8 := rfl
set_option maxRecDepth 100000 in
set_option maxHeartbeats 2000000 in
theorem sleqLa (v1 v2 : Value) (l m : List La) (w : World) (h1 : SlAt w v1 l.length (l.flatMap encLa)) (h2 : SlAt w v2 m.length (m.flatMap encLa)) (hn : l.length ≤ 1000000) : Calls Tryz.prog 14 #[v1, v2] w (BoolPost (eqL eqLa l m) w) := by
  obtain ⟨a1, c1, hv1, hc1⟩ := h1.form
  obtain ⟨a2, c2, hv2, hc2⟩ := h2.form
  have H1 := Lib.hid h1
  have H2 := Lib.hid h2
  clear h1 h2
  by_cases hl : l.length = m.length
  · rw [hv1, hv2] at *
    rw [← hl]
    go_enter Tryz.func14, Tryz.ntmps14
    go_wp2
    go_loopw [13] (fun i wr => EqRel eqLa l m w i wr) (fun i _ => l.length - (intOf i).toNat)
    case atStart => exact ⟨0, rfl, Nat.zero_le _, (fun j x y hj => by omega), Below.refl _ _⟩
    case round =>
      obtain ⟨k, rfl, hk, hall, hb⟩ := hrel
      have HB := Lib.hid hb
      have HA := Lib.hid hall
      clear hb hall
      by_cases hlt : k < l.length
      · obtain ⟨x, hx⟩ : ∃ x, l[k]? = some x := ⟨_, List.getElem?_eq_getElem hlt⟩
        obtain ⟨y, hy⟩ : ∃ y, m[k]? = some y := ⟨_, List.getElem?_eq_getElem (by omega)⟩
        obtain ⟨g, off, cp, hs1, -, r1⟩ := SlAt.at H1.out encLa_len (by decide) hx
        obtain ⟨g2, off2, cp2, hs2, -, r2⟩ := SlAt.at H2.out encLa_len (by decide) hy
        cases hs1
        cases hs2
        have HR1 := Lib.hid (show wr.drew.rangeAt g (off + k * 8) (laA x).toList from fun j u hj => cell_below HB.out (r1 j u hj))
        have HR2 := Lib.hid (show wr.drew.rangeAt g2 (off2 + k * 8) (laA y).toList from fun j u hj => cell_below HB.out (r2 j u hj))
        have HX := Lib.hid hx
        have HY := Lib.hid hy
        have e0 : (k : Int) < l.length := by omega
        clear r1 r2 hx hy
        go_upto_region 6 with fail
        refine wp_region_noPanic ?_
        refine wp_region_any (by kernel_rfl) ?_
        change wpAny _ _ _ _ _ _ _ (World.drew _)
        refine wpAny_of_held (S := (fun w2 => w2.rangeAt g (off + k * 8) (laA x).toList ∧ w2.rangeAt g2 (off2 + k * 8) (laA y).toList)) _ _ _ _ ?_
        have hHeld : (fun w2 => w2.rangeAt g (off + k * 8) (laA x).toList ∧ w2.rangeAt g2 (off2 + k * 8) (laA y).toList) wr.drew := ⟨HR1.out, HR2.out⟩
        refine wpAnyH_take (i := 0) (oi := ⟨some 16, _, _, _, _, _⟩) (v := ?_) rfl (by kernel_rfl) (by kernel_rfl) (by kernel_rfl) (fun _ _ _ h => h) (Or.inl ⟨by rfl, ?_⟩) (by assumption) ?_
        rotate_left 1
        · intro w hSw
          try dsimp only at hSw
          go_simp
          try with_reducible rfl
        try simp only [Act.put, List.setIfInBounds_toArray, List.set_cons_zero, List.set_cons_succ]
        refine wpAnyH_take (i := 1) (oi := ⟨some 17, _, _, _, _, _⟩) (v := ?_) rfl (by kernel_rfl) (by kernel_rfl) (by kernel_rfl) (fun _ _ _ h => h) (Or.inl ⟨by rfl, ?_⟩) (by assumption) ?_
        rotate_left 1
        · intro w hSw
          try dsimp only at hSw
          go_simp
          try with_reducible rfl
        try simp only [Act.put, List.setIfInBounds_toArray, List.set_cons_zero, List.set_cons_succ]
        refine wpAnyH_take (i := 2) (oi := ⟨some 18, _, _, _, _, _⟩) (v := ?_) rfl (by kernel_rfl) (by kernel_rfl) (by kernel_rfl) (fun _ _ _ h => h) (Or.inl ⟨by rfl, ?_⟩) (by assumption) ?_
        rotate_left 1
        · intro w hSw
          try dsimp only at hSw
          go_simp
          try with_reducible rfl
        try simp only [Act.put, List.setIfInBounds_toArray, List.set_cons_zero, List.set_cons_succ]
        refine wpAnyH_take (i := 3) (oi := ⟨some 19, _, _, _, _, _⟩) (v := .agg (laA x)) rfl (by kernel_rfl) (by kernel_rfl) (by kernel_rfl) (fun _ _ _ h => h) (yieldsIf_load_mid (by rfl) 49 _ rfl g (off + k * 8) rfl (laA x).toList _ (fun w2 hw => hw.1) Tryz.underlying49 rfl (la_info)) (by assumption) ?_
        try simp only [Act.put, List.setIfInBounds_toArray, List.set_cons_zero, List.set_cons_succ]
        refine wpAnyH_take (i := 4) (oi := ⟨some 20, _, _, _, _, _⟩) (v := ?_) rfl (by kernel_rfl) (by kernel_rfl) (by kernel_rfl) (fun _ _ _ h => h) (Or.inl ⟨by rfl, ?_⟩) (by assumption) ?_
        rotate_left 1
        · intro w hSw
          try dsimp only at hSw
          go_simp
          try with_reducible rfl
        try simp only [Act.put, List.setIfInBounds_toArray, List.set_cons_zero, List.set_cons_succ]
        refine wpAnyH_take (i := 5) (oi := ⟨some 21, _, _, _, _, _⟩) (v := ?_) rfl (by kernel_rfl) (by kernel_rfl) (by kernel_rfl) (fun _ _ _ h => h) (Or.inl ⟨by rfl, ?_⟩) (by assumption) ?_
        rotate_left 1
        · intro w hSw
          try dsimp only at hSw
          go_simp
          try with_reducible rfl
        try simp only [Act.put, List.setIfInBounds_toArray, List.set_cons_zero, List.set_cons_succ]
        refine wpAnyH_take (i := 6) (oi := ⟨some 22, _, _, _, _, _⟩) (v := ?_) rfl (by kernel_rfl) (by kernel_rfl) (by kernel_rfl) (fun _ _ _ h => h) (Or.inl ⟨by rfl, ?_⟩) (by assumption) ?_
        rotate_left 1
        · intro w hSw
          try dsimp only at hSw
          go_simp
          try with_reducible rfl
        try simp only [Act.put, List.setIfInBounds_toArray, List.set_cons_zero, List.set_cons_succ]
        refine wpAnyH_take (i := 7) (oi := ⟨some 23, _, _, _, _, _⟩) (v := .agg (laA y)) rfl (by kernel_rfl) (by kernel_rfl) (by kernel_rfl) (fun _ _ _ h => h) (yieldsIf_load_mid (by rfl) 49 _ rfl g2 (off2 + k * 8) rfl (laA y).toList _ (fun w2 hw => hw.2) Tryz.underlying49 rfl (la_info)) (by assumption) ?_
        try simp only [Act.put, List.setIfInBounds_toArray, List.set_cons_zero, List.set_cons_succ]
        refine wpAnyH_take (i := 8) (oi := ⟨some 24, _, _, _, _, _⟩) (v := .bool (!eqLa x y)) rfl (by kernel_rfl) (by kernel_rfl) (by kernel_rfl) (fun _ _ _ h => h) (Or.inl ⟨by rfl, fun w2 _ => exec_neLa (x := x) (y := y) _ _ rfl rfl rfl w2⟩) (by assumption) ?_
        try simp only [Act.put, List.setIfInBounds_toArray, List.set_cons_zero, List.set_cons_succ]
        refine wpAnyH_done (by kernel_rfl) ?_ _
        refine NoPanic.normal ?_
        clear hHeld
        rcases he : eqLa x y with _ | _
        · have HN := Lib.hid (eqL_at HX.out HY.out he)
          clear he
          go_wp2_with fail
          go_ret
          exact ⟨ret_bool HN.out.symm, HB.out.drew⟩
        · have HS := Lib.hid (eqRel_snoc HA.out HX.out HY.out he)
          clear he
          go_wp2_with fail
          go_roundw
          case rel => exact ⟨k + 1, by go_num, by omega, HS.out, HB.out.drew⟩
          case measure => simp [intOf]; omega
      · have HN := Lib.hid (eqL_all hl (e := eqLa) (fun j x y a b => HA.out j x y (by have := (List.getElem?_eq_some_iff.1 a).1; omega) a b))
        go_wp2
        go_ret
        exact ⟨ret_bool HN.out.symm, HB.out⟩
  · have HN := Lib.hid (eqL_len (e := eqLa) hl)
    rw [hv1, hv2]
    go_enter Tryz.func14, Tryz.ntmps14
    go_wp2
    go_ret
    exact ⟨ret_bool HN.out.symm, Below.refl _ _⟩
structure Mk where
  tk : Int
  g : Gr
  lv : Value
  ls : List La
def mkA (x : Mk) : Array Value := #[.int .u64 x.tk, .string x.g.need, .int .i64 x.g.cls, .int .i64 x.g.ten, .int .i64 x.g.inv, .int .i64 x.g.id, .int .i64 x.g.cost, x.lv]
def encMk (x : Mk) : List Value := (mkA x).toList
theorem encMk_len (x : Mk) : (encMk x).length = 8 := rfl
def eqMk (x y : Mk) : Bool := (x.tk == y.tk) && eqGr x.g y.g && eqL eqLa x.ls y.ls
theorem eqLa_self (x : La) : eqLa x x = true := eqLa_iff.2 rfl
theorem eqMk_self (x : Mk) : eqMk x x = true := by simp [eqMk, eqGr_iff.2 rfl, eqL_self eqLa_self]
def MksAt (w : World) (v : Value) (l : List Mk) : Prop := SlAt w v l.length (l.flatMap encMk) ∧ ∀ x ∈ l, SlAt w x.lv x.ls.length (x.ls.flatMap encLa)
theorem MksAt.below {w w' : World} {v : Value} {l : List Mk} (h : MksAt w v l) (hb : Below w.heap.size w w') : MksAt w' v l := ⟨h.1.below hb, fun x hx => (h.2 x hx).below hb⟩
end Go.Proofs.YtnjabndkaabogaaGreatDoor
namespace Go.Proofs.YtnjabndkaabogaaGreatDoor
open Go.RowKit
theorem infoMark : (Tryz.prog.info? 31).map (·.size) = some 8 := by kernel_rfl
set_option maxRecDepth 100000 in
set_option maxHeartbeats 2000000 in
theorem eqfMark {α : Type} (en : α → Array Value) (hK : ∀ x, (en x).size = 8) (e : α → α → Bool) (l m : List α) (hO : ∀ x, x ∈ l ∨ x ∈ m → (en x).all (·.oneCell') = true) (v1 v2 : Value) (w : World) (h1 : SlAt w v1 l.length (l.flatMap fun x => (en x).toList)) (h2 : SlAt w v2 m.length (m.flatMap fun x => (en x).toList)) (hn : l.length ≤ 1000000)
    (hf : ∀ x ∈ l, ∀ y ∈ m, ∀ w', Below w.heap.size w w' → Calls Tryz.prog 13 #[.agg (en x), .agg (en y)] w' (BoolPost (e x y) w')) : Calls Tryz.prog 12 #[v1, v2, .func (.func 13) #[] #[]] w (BoolPost (eqL e l m) w) := by
  obtain ⟨a1, c1, hv1, hc1⟩ := h1.form
  obtain ⟨a2, c2, hv2, hc2⟩ := h2.form
  have H1 := Lib.hid h1
  have H2 := Lib.hid h2
  have HF := Lib.hid hf
  have HI := Lib.hid (show ∀ x, (Tryz.prog.info? 31).map (·.size) = some (en x).toList.length from fun x => by rw [infoMark, Array.length_toList, hK])
  have HI2 := Lib.hid (show ∀ x, (Tryz.prog.info? 31).map (·.size) = some (en x).size from fun x => by rw [infoMark, hK])
  have HS := Lib.hid (show ∀ x, 8 = (en x).size from fun x => (hK x).symm)
  have HO := Lib.hid hO
  have HL := Lib.hid (show ∀ x, (en x).toList.length = 8 from fun x => by rw [Array.length_toList, hK])
  clear h1 h2 hf hK hO
  by_cases hl : l.length = m.length
  · rw [hv1, hv2] at *
    rw [← hl]
    have HLL := Lib.hid hl
    clear hl
    go_enter Tryz.func12, Tryz.ntmps12
    go_wp2
    go_loopw [17] (fun i wr => EqRel e l m w i wr) (fun i _ => l.length - (intOf i).toNat)
    case atStart => exact ⟨0, rfl, Nat.zero_le _, (fun j x y hj => by omega), Below.refl _ _⟩
    case round =>
      obtain ⟨k, rfl, hk, hall, hb⟩ := hrel
      have HB := Lib.hid hb
      have HA := Lib.hid hall
      clear hb hall
      by_cases hlt : k < l.length
      · obtain ⟨x, hx⟩ : ∃ x, l[k]? = some x := ⟨_, List.getElem?_eq_getElem hlt⟩
        obtain ⟨y, hy⟩ : ∃ y, m[k]? = some y := ⟨_, List.getElem?_eq_getElem (by have := HLL.out; omega)⟩
        obtain ⟨g, off, cp, hs1, -, r1⟩ := SlAt.at H1.out HL.out (by decide) hx
        obtain ⟨g2, off2, cp2, hs2, -, r2⟩ := SlAt.at H2.out HL.out (by decide) hy
        cases hs1
        cases hs2
        have HB1 := Lib.hid (HB.out.alloc HB.out.size (.cells (en x) 31))
        have HB2 := Lib.hid (HB1.out.alloc HB1.out.size (.cells (en y) 31))
        have HR1 := Lib.hid (show wr.rangeAt g (off + k * 8) (en x).toList from fun j u hj => cell_below HB.out (r1 j u hj))
        have HR2 := Lib.hid (show (wr.alloc (.cells (en x) 31)).rangeAt g2 (off2 + k * 8) (en y).toList from fun j u hj => cell_below HB1.out (r2 j u hj))
        have HG1 := Lib.hid (fr_alloc_old (o := .cells (en y) 31) (heap_alloc_new wr (.cells (en x) 31)))
        have HG2 := Lib.hid (heap_alloc_two wr (.cells (en x) 31) (.cells (en y) 31))
        have HX := Lib.hid hx
        have HY := Lib.hid hy
        have e0 : (k : Int) < l.length := by omega
        clear r1 r2 hx hy
        go_upto_region 7 with (first
          | (refine wpList_load_mid rfl 31 _ rfl g (off + k * 8) rfl (en x).toList _ HR1.out Tryz.underlying31 rfl (HI.out x) ?_)
          | (refine wpList_load_mid rfl 31 _ rfl g2 (off2 + k * 8) rfl (en y).toList _ HR2.out Tryz.underlying31 rfl (HI.out y) ?_)
          | (refine wpList_store_new rfl 31 _ _ rfl wr.heap.size ?a1 _ rfl rfl ?a2 ?a3 ?a4 ?_; (case a1 => simp); (case a2 => exact HI2.out x); (case a3 => exact HS.out x); (case a4 => exact HO.out x (.inl (List.mem_of_getElem? HX.out))))
          | (refine wpList_store_new rfl 31 _ _ rfl (wr.heap.size + 1) ?a1 _ rfl rfl ?a2 ?a3 ?a4 ?_; (case a1 => simp); (case a2 => exact HI2.out y); (case a3 => exact HS.out y); (case a4 => exact HO.out y (.inr (List.mem_of_getElem? HY.out)))))
        generalize (wr.alloc (.cells (en x) 31)).alloc (.cells (en y) 31) = W2 at HB2 HG1 HG2 ⊢
        go_wp2_with (first
          | refine wpList_load_agg 31 HG1.out Tryz.underlying31 rfl (HI2.out x) rfl _ rfl rfl ?_
          | refine wpList_load_agg 31 HG2.out Tryz.underlying31 rfl (HI2.out y) rfl _ rfl rfl ?_)
        refine (HF.out x (List.mem_of_getElem? HX.out) y (List.mem_of_getElem? HY.out) _ HB2.out).mono ?_
        rintro r w3 ⟨rfl, hb3⟩
        have HB3 := Lib.hid (HB2.out.trans (hb3.mono HB2.out.size))
        clear hb3 HR1 HR2 HG1 HG2
        rcases he : e x y with _ | _
        · have HN := Lib.hid (eqL_at HX.out HY.out he)
          clear he
          go_wp2_with fail
          go_ret
          exact ⟨ret_bool HN.out.symm, HB3.out⟩
        · have HSN := Lib.hid (eqRel_snoc HA.out HX.out HY.out he)
          clear he
          go_wp2_with fail
          go_roundw
          case rel => exact ⟨k + 1, by go_num, by omega, HSN.out, HB3.out⟩
          case measure => simp [intOf]; omega
      · have HN := Lib.hid (eqL_all HLL.out (e := e) (fun j x y a b => HA.out j x y (by have := (List.getElem?_eq_some_iff.1 a).1; omega) a b))
        go_wp2
        go_ret
        exact ⟨ret_bool HN.out.symm, HB.out⟩
  · have HN := Lib.hid (eqL_len (e := e) hl)
    rw [hv1, hv2]
    go_enter Tryz.func12, Tryz.ntmps12
    go_wp2
    go_ret
    exact ⟨ret_bool HN.out.symm, Below.refl _ _⟩
theorem mk_gr (x : Mk) (j : Nat) (u : Value) (h : (grA x.g).toList[j]? = some u) : (mkA x)[j + 1]? = (grA x.g).toList[j]? := by
  match j, h with
  | 0, _ => rfl
  | 1, _ => rfl
  | 2, _ => rfl
  | 3, _ => rfl
  | 4, _ => rfl
  | 5, _ => rfl
  | n + 6, h => simp [grA] at h
theorem wpList_value {P : Program} {ops : Array Oper} {Q : Exit → Act → World → Prop} {rest : List Oper} {op : Oper} {a : Act} {w : World} {v : Value} (hw : Region.wanted op (yielded ops a.tmps) = true) (h1 : (execOp a.eval op).run P w = .ok (.value v) w) (h : wpList P ops Q rest (a.put op.dst v) w) : wpList P ops Q (op :: rest) a w := by
  unfold wpList
  rw [if_pos hw]
  refine .inl ?_
  unfold Oper.wp
  rw [h1]
  exact h
theorem wpList_load_midw {P : Program} {ops : Array Oper} {rest : List Oper} {op : Oper} {a : Act} {w : World} {Q : Exit → Act → World → Prop} (hw : Region.wanted op (yielded ops a.tmps) = true) (ty : TypeId) (x : Operand) (ho : op.op = .load ty x)
    (b o : Nat) (hx : a.eval x = .pointer (some ⟨b, o, none⟩)) (cs : List Value) (d : TypeDesc) (hc : w.rangeAt b o cs)
    (hu : P.underlying ty = some d) (hd : d.isRow = true) (hi : (P.info? ty).map (·.size) = some cs.length)
    (h : wpList P ops Q rest (a.put op.dst (.agg cs.toArray)) w) : wpList P ops Q (op :: rest) a w := by
  unfold wpList
  rw [if_pos hw]
  exact .inl (wp_load_mid ty x ho b o hx cs d hc hu hd hi h)
theorem one_mk {x : Mk} {w : World} (h : SlAt w x.lv x.ls.length (x.ls.flatMap encLa)) : (mkA x).all (·.oneCell') = true := by
  obtain ⟨a, cap, he, _⟩ := h.form
  simp [mkA, he, Value.oneCell']
set_option maxRecDepth 100000 in
set_option maxHeartbeats 4000000 in
theorem same1_any (x y : Mk) (w : World) (h1 : SlAt w x.lv x.ls.length (x.ls.flatMap encLa)) (h2 : SlAt w y.lv y.ls.length (y.ls.flatMap encLa)) (hn : x.ls.length ≤ 1000000) : Calls Tryz.prog 13 #[.agg (mkA x), .agg (mkA y)] w (BoolPost (eqMk x y) w) := by
  have H1 := Lib.hid h1
  have H2 := Lib.hid h2
  have HB := Lib.hid ((box_below (w := w) (o := .cells (mkA x) 31)).alloc (by simp) (.cells (mkA y) 31))
  have HG1 := Lib.hid (show ((w.alloc (.cells (mkA x) 31)).alloc (.cells (mkA y) 31)).rangeAt w.heap.size 1 (grA x.g).toList from fun j u hj => cell_below (box_below (w := w.alloc (.cells (mkA x) 31))) (cell_alloc_at (by rw [← hj, Nat.add_comm]; exact mk_gr x j u hj)))
  have HG2 := Lib.hid (show ((w.alloc (.cells (mkA x) 31)).alloc (.cells (mkA y) 31)).rangeAt (w.heap.size + 1) 1 (grA y.g).toList from fun j u hj => fr_cell_of_heap (heap_alloc_two _ _ _) (by rw [← hj, Nat.add_comm]; exact mk_gr y j u hj))
  have a0 : (mkA x)[0]? = some (.int .u64 x.tk) := rfl
  have a7 : (mkA x)[7]? = some x.lv := rfl
  have b0 : (mkA y)[0]? = some (.int .u64 y.tk) := rfl
  have b7 : (mkA y)[7]? = some y.lv := rfl
  clear h1 h2
  rcases k1 : (x.tk == y.tk) with _ | _
  · rw [show eqMk x y = false by simp [eqMk, k1]]
    go_enter Tryz.func13, Tryz.ntmps13
    go_wp2_with fail
    go_ret
    exact ⟨rfl, HB.out⟩
  rcases k2 : eqGr x.g y.g with _ | _
  · rw [show eqMk x y = false by simp [eqMk, k2]]
    go_enter Tryz.func13, Tryz.ntmps13
    go_wp2_with (first | refine wpList_load_midw rfl 28 _ rfl w.heap.size 1 rfl (grA x.g).toList _ HG1.out Tryz.underlying28 rfl gr_info ?_ | refine wpList_load_midw rfl 28 _ rfl (w.heap.size + 1) 1 rfl (grA y.g).toList _ HG2.out Tryz.underlying28 rfl gr_info ?_ | refine wpList_value (v := .bool false) rfl (by rw [← k2]; exact exec_eqGr (x := x.g) (y := y.g) _ _ rfl rfl rfl _) ?_)
    go_ret
    exact ⟨rfl, HB.out⟩
  rw [show eqMk x y = eqL eqLa x.ls y.ls by simp [eqMk, k1, k2]]
  have HQ := Lib.hid (show ∀ w', Below w.heap.size w w' → Calls Tryz.prog 14 #[x.lv, y.lv] w' (BoolPost (eqL eqLa x.ls y.ls) w') from fun w' hb => sleqLa _ _ _ _ _ (H1.out.below hb) (H2.out.below hb) hn)
  generalize eqL eqLa x.ls y.ls = q at HQ ⊢
  go_enter Tryz.func13, Tryz.ntmps13
  go_wp2_with (first | refine wpList_load_midw rfl 28 _ rfl w.heap.size 1 rfl (grA x.g).toList _ HG1.out Tryz.underlying28 rfl gr_info ?_ | refine wpList_load_midw rfl 28 _ rfl (w.heap.size + 1) 1 rfl (grA y.g).toList _ HG2.out Tryz.underlying28 rfl gr_info ?_ | refine wpList_value (v := .bool true) rfl (by rw [← k2]; exact exec_eqGr (x := x.g) (y := y.g) _ _ rfl rfl rfl _) ?_)
  refine (HQ.out _ HB.out).mono ?_
  rintro e w3 ⟨rfl, hb3⟩
  have HB3 := Lib.hid (HB.out.trans (hb3.mono HB.out.size))
  clear hb3 HG1 HG2
  rcases q with _ | _ <;>
  · go_wp2_with fail
    go_ret
    exact ⟨rfl, HB3.out⟩
set_option maxRecDepth 100000 in
set_option maxHeartbeats 4000000 in
theorem trSame_any (v1 v2 : Value) (l m : List Mk) (w : World) (h1 : MksAt w v1 l) (h2 : MksAt w v2 m) (hn : l.length ≤ 1000000) (hl : ∀ x ∈ l, x.ls.length ≤ 1000000) : Calls Tryz.prog 6 #[v1, v2] w (BoolPost (eqL eqMk l m) w) := by
  have H1 := Lib.hid h1
  have H2 := Lib.hid h2
  have HL := Lib.hid hl
  clear h1 h2 hl
  go_enter Tryz.func6, Tryz.ntmps6
  go_wp2_with fail
  refine (eqfMark mkA (fun _ => rfl) eqMk l m (fun x hx => one_mk (hx.elim (fun h => H1.out.2 x h) (fun h => H2.out.2 x h))) v1 v2 _ H1.out.1 H2.out.1 hn (fun x hx y hy w' hb => same1_any x y w' ((H1.out.2 x hx).below hb) ((H2.out.2 y hy).below hb) (HL.out x hx))).mono ?_
  rintro e w3 ⟨rfl, hb3⟩
  go_wp2_with fail
  go_ret
  exact ⟨rfl, hb3⟩
end Go.Proofs.YtnjabndkaabogaaGreatDoor
