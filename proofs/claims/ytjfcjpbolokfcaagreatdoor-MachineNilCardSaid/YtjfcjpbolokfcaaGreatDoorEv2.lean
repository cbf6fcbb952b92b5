/-
  An evaluator for closed runs: how its values stand to the model's.
-/
import Derived.Test.YtjfcjpbolokfcaaGreatDoorEv1
namespace Go.Proofs.YtjfcjpbolokfcaaGreatDoor.Ev
open Go

/-- Where a name's block lies: the block, the first cell, and how many elements there is more room. -/
structure Nm where
  b : Nat
  s : Nat
  e : Nat
def Nm.at (m : Nm) (o : Nat) : Addr := ⟨m.b, m.s + o, none⟩
/-- A value whose blocks are names, and the model's. A slice's room is so much more as there is behind the block's known cells; one cut to a room of its own has spot 0; one cut off at the end of what is known has no element, and begins at o, but at q where there is no more room (spot q + 1). -/
inductive VR (ρ : Nat → Nm) (nx : Nat) : Value → Value → Prop
  | bool (b : Bool) : VR ρ nx (.bool b) (.bool b)
  | int (k : IntKind) (n : Int) : VR ρ nx (.int k n) (.int k n)
  | string (s : ByteArray) : VR ρ nx (.string s) (.string s)
  | nilPtr : VR ρ nx (.pointer none) (.pointer none)
  | ptr (n o : Nat) (h : n < nx) : VR ρ nx (.pointer (some ⟨n, o, none⟩)) (.pointer (some ((ρ n).at o)))
  | nilSl : VR ρ nx (.slice none 0 0) (.slice none 0 0)
  | sl (n o l c : Nat) (h : n < nx) : VR ρ nx (.slice (some ⟨n, o, none⟩) l c) (.slice (some ((ρ n).at o)) l (c + (ρ n).e))
  | fx (n o l c : Nat) (h : n < nx) : VR ρ nx (.slice (some ⟨n, o, some 0⟩) l c) (.slice (some ((ρ n).at o)) l c)
  | tl (n o q : Nat) (h : n < nx) : VR ρ nx (.slice (some ⟨n, o, some (q + 1)⟩) 0 0) (.slice (some (if (ρ n).e = 0 then (ρ n).at q else (ρ n).at o)) 0 (ρ n).e)
  | nilMap : VR ρ nx (.map none) (.map none)
  | map (n : Nat) (h : n < nx) : VR ρ nx (.map (some n)) (.map (some (ρ n).b))
  | nilFunc : VR ρ nx .nilFunc .nilFunc
  | func (f : Fn) (a b a' b' : Array Value) (h1 : a.size = a'.size) (h2 : b.size = b'.size) (ha : ∀ (i : Nat) x y, a[i]? = some x → a'[i]? = some y → VR ρ nx x y) (hb : ∀ (i : Nat) x y, b[i]? = some x → b'[i]? = some y → VR ρ nx x y) : VR ρ nx (.func f a b) (.func f a' b')
  | nilIface : VR ρ nx .nilIface .nilIface
  | iface (t : TypeId) (v u : Value) (h : VR ρ nx v u) : VR ρ nx (.iface t v) (.iface t u)
  | agg (a a' : Array Value) (h1 : a.size = a'.size) (ha : ∀ (i : Nat) x y, a[i]? = some x → a'[i]? = some y → VR ρ nx x y) : VR ρ nx (.agg a) (.agg a')
  | tuple (a a' : Array Value) (h1 : a.size = a'.size) (ha : ∀ (i : Nat) x y, a[i]? = some x → a'[i]? = some y → VR ρ nx x y) : VR ρ nx (.tuple a) (.tuple a')
/-- Arrays, element by element. -/
def AR (ρ : Nat → Nm) (nx : Nat) (a a' : Array Value) : Prop := a.size = a'.size ∧ ∀ (i : Nat) x y, a[i]? = some x → a'[i]? = some y → VR ρ nx x y
theorem arr_get {α : Type} {a : Array α} {i : Nat} (h : i < a.size) : ∃ x, a[i]? = some x := ⟨a[i], Array.getElem?_eq_getElem h⟩
theorem arr_lt {α : Type} {a : Array α} {i : Nat} {x : α} (h : a[i]? = some x) : i < a.size := (Array.getElem?_eq_some_iff.1 h).1
theorem arr_det {a b c : Array Value} (h1 : a.size = b.size) (h2 : a.size = c.size) (hd : ∀ (i : Nat) x y z, a[i]? = some x → b[i]? = some y → c[i]? = some z → y = z) : b = c := by
  apply Array.ext
  · omega
  · intro i hb hc
    obtain ⟨x, hx⟩ := arr_get (a := a) (i := i) (by omega)
    exact hd i x _ _ hx (Array.getElem?_eq_getElem hb) (Array.getElem?_eq_getElem hc)
section
variable {ρ ρ' : Nat → Nm} {nx nx' : Nat}
theorem VR.det {v a b : Value} (h : VR ρ nx v a) : VR ρ nx v b → a = b := by
  intro h'
  induction h generalizing b with
  | bool => cases h'; rfl
  | int => cases h'; rfl
  | string => cases h'; rfl
  | nilPtr => cases h'; rfl
  | ptr => cases h'; rfl
  | nilSl => cases h'; rfl
  | sl => cases h'; rfl
  | fx => cases h'; rfl
  | tl => cases h'; rfl
  | nilMap => cases h'; rfl
  | map => cases h'; rfl
  | nilFunc => cases h'; rfl
  | nilIface => cases h'; rfl
  | func f a b a' b' h1 h2 ha hb iha ihb =>
    cases h' with
    | func _ _ _ c d g1 g2 ga gb =>
      rw [arr_det h1 g1 (fun i x y z hx hy hz => iha i x y hx hy (ga i x z hx hz)), arr_det h2 g2 (fun i x y z hx hy hz => ihb i x y hx hy (gb i x z hx hz))]
  | iface t v u h ih =>
    cases h' with
    | iface _ _ w g => rw [ih g]
  | agg a a' h1 ha ih =>
    cases h' with
    | agg _ c g1 ga => rw [arr_det h1 g1 (fun i x y z hx hy hz => ih i x y hx hy (ga i x z hx hz))]
  | tuple a a' h1 ha ih =>
    cases h' with
    | tuple _ c g1 ga => rw [arr_det h1 g1 (fun i x y z hx hy hz => ih i x y hx hy (ga i x z hx hz))]
/-- More names, the ones there were as they were. -/
def Ext (ρ : Nat → Nm) (nx : Nat) (ρ' : Nat → Nm) (nx' : Nat) : Prop := nx ≤ nx' ∧ ∀ n, n < nx → ρ' n = ρ n
theorem Ext.refl (ρ : Nat → Nm) (nx : Nat) : Ext ρ nx ρ nx := ⟨Nat.le_refl _, fun _ _ => rfl⟩
theorem Ext.trans {ρ'' : Nat → Nm} {nx'' : Nat} (h : Ext ρ nx ρ' nx') (h' : Ext ρ' nx' ρ'' nx'') : Ext ρ nx ρ'' nx'' := ⟨Nat.le_trans h.1 h'.1, fun n hn => (h'.2 n (Nat.lt_of_lt_of_le hn h.1)).trans (h.2 n hn)⟩
theorem VR.mono {v a : Value} (hx : Ext ρ nx ρ' nx') (h : VR ρ nx v a) : VR ρ' nx' v a := by
  induction h with
  | bool b => exact .bool b
  | int k n => exact .int k n
  | string s => exact .string s
  | nilPtr => exact .nilPtr
  | ptr n o h => rw [← hx.2 n h]; exact .ptr n o (Nat.lt_of_lt_of_le h hx.1)
  | nilSl => exact .nilSl
  | sl n o l c h => rw [← hx.2 n h]; exact .sl n o l c (Nat.lt_of_lt_of_le h hx.1)
  | fx n o l c h => rw [← hx.2 n h]; exact .fx n o l c (Nat.lt_of_lt_of_le h hx.1)
  | tl n o q h => rw [← hx.2 n h]; exact .tl n o q (Nat.lt_of_lt_of_le h hx.1)
  | nilMap => exact .nilMap
  | map n h => rw [← hx.2 n h]; exact .map n (Nat.lt_of_lt_of_le h hx.1)
  | nilFunc => exact .nilFunc
  | nilIface => exact .nilIface
  | func f a b a' b' h1 h2 _ _ iha ihb => exact .func f a b a' b' h1 h2 iha ihb
  | iface t v u _ ih => exact .iface t v u ih
  | agg a a' h1 _ ih => exact .agg a a' h1 ih
  | tuple a a' h1 _ ih => exact .tuple a a' h1 ih
theorem AR.mono {a a' : Array Value} (hx : Ext ρ nx ρ' nx') (h : AR ρ nx a a') : AR ρ' nx' a a' := ⟨h.1, fun i x y h1 h2 => (h.2 i x y h1 h2).mono hx⟩
theorem AR.at {a a' : Array Value} (h : AR ρ nx a a') {i : Nat} {x : Value} (hx : a[i]? = some x) : ∃ y, a'[i]? = some y ∧ VR ρ nx x y := by
  obtain ⟨y, hy⟩ := arr_get (a := a') (i := i) (by have := arr_lt hx; have := h.1; omega)
  exact ⟨y, hy, h.2 i x y hx hy⟩
end
/-- A value that names no block. -/
noncomputable def flatStep (ih : Value → Bool) (v : Value) : Bool :=
  match v with
  | .bool _ | .int .. | .string _ | .pointer none | .slice none 0 0 | .map none | .nilFunc | .nilIface => true
  | .func _ a b => a.toList.all ih && b.toList.all ih
  | .iface _ v => ih v
  | .agg a => a.toList.all ih
  | .tuple a => a.toList.all ih
  | _ => false
noncomputable def flatN (n : Nat) : Value → Bool := Nat.rec (motive := fun _ => Value → Bool) (fun _ => false) (fun _ ih => flatStep ih) n
noncomputable def flat (v : Value) : Bool := flatN 8 v
theorem arr_self {ρ : Nat → Nm} {nx n : Nat} {a : Array Value} (h : a.toList.all (flatN n) = true) (ih : ∀ v, flatN n v = true → VR ρ nx v v) : ∀ (i : Nat) x y, a[i]? = some x → a[i]? = some y → VR ρ nx x y := fun i x y hx hy => by
  obtain rfl := Option.some.inj (hx.symm.trans hy)
  refine ih x (List.all_eq_true.1 h x ?_)
  exact Array.mem_toList_iff.2 (Array.mem_of_getElem? hx)
theorem flatN_vr {ρ : Nat → Nm} {nx : Nat} : ∀ (n : Nat) (v : Value), flatN n v = true → VR ρ nx v v
  | 0, v, h => by cases h
  | n + 1, v, h => by
    have ih := flatN_vr (ρ := ρ) (nx := nx) n
    change flatStep (flatN n) v = true at h
    unfold flatStep at h
    split at h
    · exact .bool _
    · exact .int _ _
    · exact .string _
    · exact .nilPtr
    · exact .nilSl
    · exact .nilMap
    · exact .nilFunc
    · exact .nilIface
    · simp only [Bool.and_eq_true] at h
      exact .func _ _ _ _ _ rfl rfl (arr_self h.1 ih) (arr_self h.2 ih)
    · exact .iface _ _ _ (ih _ h)
    · exact .agg _ _ rfl (arr_self h ih)
    · exact .tuple _ _ rfl (arr_self h ih)
    · cases h
theorem flat_vr {ρ : Nat → Nm} {nx : Nat} {v : Value} (h : flat v = true) : VR ρ nx v v := flatN_vr 8 v h
theorem flat_eq {ρ : Nat → Nm} {nx : Nat} {v a : Value} (h : flat v = true) (hr : VR ρ nx v a) : a = v := hr.det (flat_vr h)
end Go.Proofs.YtjfcjpbolokfcaaGreatDoor.Ev
