/-
  spin's Pick: the walk.
-/
import Derived.Test.YtohkchilogmneaaPick
namespace Go.Proofs.Ytohkchilogmneaa
open Go.RowKit

def itV (x : It) : Value := .agg #[.int .i64 x.id, .int .i64 x.cost]
/-- The blocks of the sources. -/
def InPart (ρ : Roles) (pre : List Int) (k : Nat) : Prop := ∃ s, ρ k = pre ++ 5 :: s
/-- What a source answers. -/
structure SrcLaw {α : Type} (pre : List Int) (T K : Nat) (ok : Int → Value → Prop) (In : α → Roles → World → Prop) (pk : α → Int → α × It) : Prop where
  later : ∀ {a ρ ρ' w}, In a ρ w → Later ρ ρ' w → In a ρ' w
  frame : ∀ {a ρ w w'} {S : Nat → Prop}, In a ρ w → Fp S w w' → (∀ k, k < w.heap.size → InPart ρ pre k → ¬ S k) → In a ρ w'
  cost : ∀ {a ρ w id src}, In a ρ w → ok id src → 1 ≤ (pk a id).2.cost ∧ (pk a id).2.cost ≤ 64
  call : ∀ {a ρ w id src}, In a ρ w → ok id src → ∃ u u', src = .iface T u ∧ (∀ w, (method 285 T u "Pick").run Try.prog w = .ok (K, u') w) ∧ (∀ w, (callFunc K #[u']).run Try.prog w = .ok (.enter K #[u']) w) ∧
    Calls Try.prog K #[u'] w fun e w' => e = .returned (.tuple #[itV (pk a id).2, .bool true]) ∧ ∃ ρ', Later ρ ρ' w ∧ (∀ k, w.heap.size ≤ k → ρ' k = ρ k ∨ InPart ρ' pre k) ∧ In (pk a id).1 ρ' w' ∧ Fp (InPart ρ pre) w w'
section
variable {pre : List Int} {ρ : Roles} {sp : Nat} {q : Int} {gv : Bool} {v : Value} {ns : List Nd}
set_option maxRecDepth 100000 in
set_option maxHeartbeats 4000000 in
/-- Pick in an empty ring. -/
theorem spinPick_nil (w : World) (hS : SpinAt pre ρ w sp q gv v []) : Calls Try.prog 53 #[.pointer (some ⟨sp, 0, none⟩)] w fun e w' => e = .returned (.tuple #[.pointer none, .agg #[.int .i64 0, .int .i64 0], .bool false]) ∧ Below w.heap.size w w' := by
  have HS := Lib.hid hS
  obtain ⟨a, cap, rfl, -⟩ := hS.form
  have d1 := (hS.below (box_below (o := .cells #[.int .i64 0, .int .i64 0] 37))).c1
  have hsp := fp_lt_of_heap hS.head
  clear hS
  go_enter Try.func53, Try.ntmps53
  go_wp2_with fail
  go_loopg [] 1 (fun g wr => wr = w.alloc (.cells #[.int .i64 0, .int .i64 0] 37))
  case atStart => rfl
  case round =>
    subst hrel
    go_wp2_with fail
    refine bodyPost_ret (v := .tuple #[.pointer none, .agg #[.int .i64 0, .int .i64 0], .bool false]) (by simp [results, Try.results53, go_sem]) rfl ⟨rfl, ?_⟩
    exact box_below
end
/-- The roles behind w's blocks: none, or of the part. -/
def NewRoles (ρ' : Roles) (pre : List Int) (n : Nat) : Prop := ∀ k, n ≤ k → ρ' k = [] ∨ Part ρ' pre k
def RingPart (ρ : Roles) (pre : List Int) (k : Nat) : Prop := SpinPart ρ pre k ∨ InPart ρ pre k
def PickPost {α : Type} (pre : List Int) (ρ : Roles) (In : α → Roles → World → Prop) (q : Int) (pk : α → Int → α × It) (w : World) (sp : Nat) (gv : Bool) (ns : List Nd) (a : α) (e : Ending) (w' : World) : Prop :=
  ∃ n r a2 x v' ρ', e = .returned (.tuple #[.pointer (some ⟨n.blk, 0, none⟩), itV x, .bool true]) ∧ Picks q pk gv ns a (n :: r) a2 x ∧ NdsOk true (n :: r) ∧ Later ρ ρ' w ∧ NewRoles ρ' pre w.heap.size ∧ SpinAt pre ρ' w' sp q true v' (n :: r) ∧ In a2 ρ' w' ∧ Fp (RingPart ρ pre) w w'
structure PRel {α : Type} (pre : List Int) (ρ : Roles) (In : α → Roles → World → Prop) (ok : Int → Value → Prop) (q : Int) (pk : α → Int → α × It) (w : World) (sp : Nat) (gv0 : Bool) (ns0 : List Nd) (a0 : α) (g : Nat) (wr : World) (gv : Bool) (n : Nd) (r : List Nd) (a : α) (v : Value) (ρr : Roles) : Prop where
  less : g = roundM gv (n :: r)
  good : NdsOk gv (n :: r)
  same : ∀ ns2 a2 y, Picks q pk gv (n :: r) a ns2 a2 y → Picks q pk gv0 ns0 a0 ns2 a2 y
  oks : ∀ m ∈ n :: r, ok m.id m.src
  later : Later ρ ρr w
  news : NewRoles ρr pre w.heap.size
  cellR : ρr w.heap.size = []
  cell : wr.heap[w.heap.size]? = some (.cells #[.int .i64 0, .int .i64 0] 37 (0, 0))
  ring : SpinAt pre ρr wr sp q gv v (n :: r)
  ins : In a ρr wr
  fp : Fp (RingPart ρ pre) w wr
section
variable {pre : List Int} {ρ : Roles} {sp : Nat} {q : Int} {gv : Bool} {v : Value} {ns : List Nd}
theorem spin_charge {w w' : World} {n : Nd} {r : List Nd} (h : SpinAt pre ρ w sp q gv v (n :: r)) (hw : w' = (w.setCell ⟨n.blk, 2, none⟩ (.int .i64 (n.df + q * n.wt))).setCell ⟨sp, 2, none⟩ (.bool true)) (hg : gv = false) :
    SpinAt pre ρ w' sp q true v (charge q gv n :: r) ∧ Fp (SpinPart ρ pre) w w' := by
  have h0 := h.node 0 n rfl
  have hne : n.blk ≠ sp := fun e => by have h1 := h0.1; rw [e, h.rs] at h1; simp at h1
  have hF : Fp (SpinPart ρ pre) w w' := by
    rw [hw]
    exact ((Fp.refl (SpinPart ρ pre) w).setCell (p := ⟨n.blk, 2, none⟩) (fun _ => .inr (.inr ⟨_, h0.1⟩)) _).setCell (p := ⟨sp, 2, none⟩) (fun _ => .inl h.rs) _
  have hoth : ∀ k, k ≠ n.blk → k ≠ sp → w'.heap[k]? = w.heap[k]? := fun k h1 h2 => by
    rw [hw, fr_setCell_other h2, fr_setCell_other h1]
  subst hg
  refine ⟨⟨?_, h.rs, h.arr.kept (fun k hk => hoth k (fun e => ?_) (fun e => ?_)), h.ra, fun i m hm => ?_, h.once, h.few⟩, hF⟩
  · rw [hw]
    exact fr_setCell_at ((fr_setCell_other (Ne.symm hne)).trans h.head)
  · have h1 := h.ra k hk
    rw [e, h0.1] at h1
    simp at h1
  · have h1 := h.ra k hk
    rw [e, h.rs] at h1
    simp at h1
  · cases i with
    | zero =>
      simp at hm
      subst hm
      refine ⟨h0.1, ?_⟩
      rw [hw]
      show _ = some (Obj.cells (ndC (charge q false n)) _ _)
      rw [show (charge q false n).blk = n.blk from rfl, fr_setCell_other hne]
      exact fr_setCell_at h0.2
    | succ i =>
      have hm' : (n :: r)[i + 1]? = some m := hm
      have h1 := h.node (i + 1) m hm'
      refine ⟨h1.1, (hoth _ (h.apart hm' (show (n :: r)[0]? = some n from rfl) (by simp)) (fun e => ?_)).trans h1.2⟩
      have h2 := h1.1
      rw [e, h.rs] at h2
      simp at h2
end
end Go.Proofs.Ytohkchilogmneaa
