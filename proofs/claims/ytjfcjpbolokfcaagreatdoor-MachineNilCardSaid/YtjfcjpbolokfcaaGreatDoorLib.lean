/-
  Small laws on memory, over any program: an append of one element, bytes to a string, what a call leaves below.
-/
import Derived.Test.YtjfcjpbolokfcaaGreatDoorRows
import Derived.WalkKit
import Derived.WalkSpells
import Derived.WalkLawsBesides
import Derived.Lib.Hide
import Derived.PlainAid
import Derived.BigQuiet
import Derived.Deep.DeepMust
import Derived.Deep.DeepFit
import Derived.Lib.QuietBelow
import Derived.Lib.OthersKept
namespace Go.Proofs.YtjfcjpbolokfcaaGreatDoor
open Go.RowKit

def TrueBelow (w : World) (e : Ending) (w' : World) : Prop := e = .returned (.bool true) ∧ Below w.heap.size w w'
theorem ret_str {a b : List UInt8} (h : a = b) : Ending.returned (.string ⟨a.toArray⟩) = .returned (.string ⟨b.toArray⟩) := by rw [h]
theorem ret_int {k : IntKind} {a b : Int} (h : a = b) : Ending.returned (.int k a) = .returned (.int k b) := by rw [h]

theorem ret_bool {a b : Bool} (h : a = b) : Ending.returned (.bool a) = .returned (.bool b) := by rw [h]
/-- A cell of the block that was made last. -/
theorem cell_alloc_at {w : World} {cs : Array Value} {t : TypeId} {i : Nat} {v : Value} (h : cs[i]? = some v) : (w.alloc (.cells cs t)).cell? ⟨w.heap.size, i, none⟩ = some v := by
  simp only [World.cell?, World.alloc, Array.getElem?_push_size]
  exact h
theorem ba_ext {a b : ByteArray} (h : a.data.toList = b.data.toList) : a = b := by
  obtain ⟨a⟩ := a
  obtain ⟨b⟩ := b
  simp at h
  rw [h]
theorem ba_self (a : ByteArray) : (a == a) = true := by rw [beq_toListBytes]; simp
theorem ba_ne {a b : ByteArray} (h : a ≠ b) : (a == b) = false := by
  rw [beq_toListBytes, ByteArray.toList_eq, ByteArray.toList_eq]
  exact beq_eq_false_iff_ne.2 fun e => h (ba_ext e)
theorem ba_list_self (a : ByteArray) : (a.toList == a.toList) = true := by simp
theorem ba_list_ne {a b : ByteArray} (h : a ≠ b) : (a.toList == b.toList) = false := by rw [← beq_toListBytes]; exact ba_ne h

/-- A byte's cell. -/
def bv (b : UInt8) : Value := .int .u8 (b.toNat : Int)
theorem bv_ofNat (n : Nat) (h : n < 256) : bv (UInt8.ofNat n) = .int .u8 (n : Int) := by
  simp [bv, Nat.mod_eq_of_lt h]

section
variable {P : Program}

/-- 'append(s, x)', s of the call's own: the new element lies in a block of its own, made just now. -/
theorem wpList_append_one {w : World} {u : Value} {e : TypeId} {ops : Array Oper} {rest : List Oper} {o : Oper} {a : Act} {Q : Exit → Act → World → Prop} (hgd : o.guard = none) (s x : Operand) (t : TypeId)
    (hop : o.op = Op.call { callee := Callee.builtin Builtin.append, args := #[s, x], argTypes := #[t, t] }) (base : Nat) (z : Value) (bytes : Nat)
    (ht : P.underlying t = some (TypeDesc.slice e)) (hinfo : (P.info? e).map (fun i => (i.zero, i.size, i.bytes)) = some (some z, 1, bytes)) (hz : z.cells.size = 1)
    (v : Value) (n : Nat) (xs : List Value) (hs : a.eval s = v) (hown : w.ownsRow base e 1 v n xs) (hx : a.eval x = Value.slice (some ⟨w.heap.size, 0, none⟩) 1 1)
    (hu : u.oneCell' = true) (hb : base ≤ w.heap.size) (hn : n < 140737488355328) (hby : (n + 1) * bytes ≤ 140737488355328)
    (hK : ∀ (v' : Value) (w' : World), w'.ownsRow base e 1 v' (n + 1) (xs ++ [u]) → w.grownBy w' v.ownBlock → v' ≠ Value.slice none 0 0 →
      wpList P ops Q rest (a.put o.dst v') w') :
    wpList P ops Q (o :: rest) a (w.alloc (.cells #[u] e)) := by
  obtain ⟨i0, hi, hz0, hz1, hz2⟩ := info_parts hinfo
  refine wpList_append_own _ hgd s x t hop base e i0 z 1 bytes ht hi hz0 hz1 hz2 hz (by decide) v n xs hs (hown.alloc _) ⟨w.heap.size, 0, none⟩ 1 1 [u] hx rfl ?_ ?_ ?_ hby ?_ ?_
  · exact cell_one_new _ _ _
  · intro y hy
    simp at hy
    subst hy
    exact hu
  · unfold maxLen; omega
  · simp; omega
  · intro v' w' h1 h2 h3
    refine hK v' w' h1 ⟨h2.os, h2.tape, h2.output, by have := h2.size; simp at this; omega, fun k hk hne => ?_⟩ ?_
    · rw [h2.block k (by simp; omega) hne]
      exact Below.heap_alloc _ _ _ hk
    · intro he
      have := (h3.1 he).2
      omega

/-- A struct or an array is loaded whole, out of a block that it fills. -/
theorem wpList_load_agg {w : World} {ops : Array Oper} {rest : List Oper} {o : Oper} {a : Act} {Q : Exit → Act → World → Prop} {g : Nat} {cs : Array Value} {t : TypeId} {fr : Nat × Nat} {d : TypeDesc} (ty : TypeId) (hg : w.heap[g]? = some (.cells cs t fr))
    (hu : P.underlying ty = some d) (hd : (match d with | .struct _ | .array _ _ => true | _ => false) = true) (hi : (P.info? ty).map (·.size) = some cs.size)
    (hw : Region.wanted o (yielded ops a.tmps) = true) (x : Operand) (ho : o.op = .load ty x) (hx : a.eval x = .pointer (some ⟨g, 0, none⟩))
    (h : wpList P ops Q rest (a.put o.dst (.agg cs)) w) : wpList P ops Q (o :: rest) a w := by
  unfold wpList
  rw [if_pos hw]
  exact .inl (wp_load_row ty x ho g hx t cs fr d hg hu hd hi h)

/-- 'string(b)', b of the call's own. -/
theorem run_string_own (w : World) (src dst e : TypeId) (hs : P.underlying src = some (.slice e)) (he : P.underlying e = some (.int .u8)) (hd : P.underlying dst = some .string)
    {base n : Nat} {v : Value} {bs : List UInt8} (hown : w.ownsRow base e 1 v n (bs.map bv)) : (convert src dst v).run P w = .ok (.string ⟨bs.toArray⟩) w := by
  obtain ⟨hl, h | ⟨g, cap, cur, rfl, hg, hb, hn, hc, hcs, htk⟩⟩ := hown
  · obtain ⟨rfl, rfl⟩ := h
    have hb0 : bs = [] := by
      cases bs with
      | nil => rfl
      | cons x r => simp at hl
    subst hb0
    rw [run_convert_bytes_nil w src e hs he 0 0 dst hd]
    rfl
  · have hlen : bs.length = n := by simpa using hl
    rw [run_convert_bytes_arg w src e hs he g 0 n cap (bs.map fun b => (b.toNat : Int)) (by simpa using hlen) (fun i hi => ?_) dst hd]
    · congr 2
      unfold strOfNums
      congr 1
      rw [List.map_map]
      congr 1
      conv => rhs; rw [← List.map_id bs]
      apply List.map_congr_left
      intro b _
      simp
    · have h1 : (List.take (n * 1) cur.toList)[i]? = some (bv (bs.getD i 0)) := by
        rw [htk]
        simp [List.getD, List.getElem?_eq_getElem (show i < bs.length by omega)]
      rw [List.getElem?_take_of_lt (by omega)] at h1
      have h2 : cur[i]? = some (bv (bs.getD i 0)) := by simpa using h1
      have h3 : (List.map (fun b => (b.toNat : Int)) bs).getD i 0 = ((bs.getD i 0).toNat : Int) := by
        simp [List.getD, List.getElem?_eq_getElem (show i < bs.length by omega)]
      rw [h3]
      simp [World.cell?, hb, h2, bv]
end

theorem cell_below {w w' : World} (hb : Below w.heap.size w w') {a : Addr} {v : Value} (h : w.cell? a = some v) : w'.cell? a = some v := by
  rw [hb.cell (World.block_lt_of_cell? w a h)]; exact h
theorem grown_of_below {w w' : World} (hb : Below w.heap.size w w') : w.grownBy w' none := ⟨hb.os, hb.tape, hb.output, hb.size, fun k hk _ => hb.block k hk⟩
theorem box_below {w : World} {o : Obj} : Below w.heap.size w (w.alloc o) := (Below.refl _ _).alloc (Nat.le_refl _) _
theorem box_below2 {w w1 : World} {o : Obj} (h : Below (w.alloc o).heap.size (w.alloc o) w1) : Below w.heap.size w w1 := box_below.trans (h.mono (by simp))
/-- What a slice of the call's own reads as. -/
theorem own_read {w : World} {base : Nat} {e : TypeId} {v : Value} {n : Nat} {xs : List Value} (h : w.ownsRow base e 1 v n xs) :
    ∃ a cap, v = .slice a n cap ∧ xs.length = n ∧ ∀ i u, xs[i]? = some u → ∃ g, a = some ⟨g, 0, none⟩ ∧ base ≤ g ∧ w.cell? ⟨g, i, none⟩ = some u := by
  obtain ⟨hl, ⟨rfl, rfl⟩ | ⟨g, cap, cur, rfl, hg, hb, hn, hc, hcs, htk⟩⟩ := h
  · have hl' : xs.length = 0 := by simpa using hl
    refine ⟨none, 0, rfl, hl', fun i u hu => ?_⟩
    rw [List.getElem?_eq_none (by omega)] at hu
    cases hu
  · have hl' : xs.length = n := by simpa using hl
    refine ⟨_, cap, rfl, hl', fun i u hu => ⟨g, rfl, hg, ?_⟩⟩
    have hi : i < n := by
      rcases Nat.lt_or_ge i n with h | h
      · exact h
      · rw [List.getElem?_eq_none (by omega)] at hu; cases hu
    rw [← htk, List.getElem?_take_of_lt (by omega)] at hu
    have h2 : cur[i]? = some u := by simpa using hu
    simp [World.cell?, hb, h2]
/-- A slice of the call's own lies in no iterator's block. -/
theorem own_ne_iter {w : World} {base : Nat} {e : TypeId} {size : Nat} {v : Value} {n : Nat} {xs : List Value} (h : w.ownsRow base e size v n xs) {k : Nat} {s : ByteArray} {pos : Nat} (hk : w.heap[k]? = some (.stringIter s pos)) : some k ≠ v.ownBlock := by
  intro he
  obtain ⟨_, ⟨rfl, _⟩ | ⟨g, cap, cur, rfl, _, hb, _⟩⟩ := h
  · simp [Value.ownBlock] at he
  · simp [Value.ownBlock] at he
    subst he
    rw [hk] at hb
    cases hb
/-- The iterator moves on: what the call owns it owns still. -/
theorem own_iterAt {w : World} {base : Nat} {e : TypeId} {size : Nat} {v : Value} {n : Nat} {xs : List Value} (h : w.ownsRow base e size v n xs) {k : Nat} {s : ByteArray} {pos : Nat} (hk : w.heap[k]? = some (.stringIter s pos)) (pos' : Nat) : (w.iterAt k s pos').ownsRow base e size v n xs := by
  have hne := own_ne_iter h hk
  obtain ⟨hl, ⟨rfl, h0⟩ | ⟨g, cap, cur, rfl, hg, hb, hr⟩⟩ := h
  · exact ⟨hl, .inl ⟨rfl, h0⟩⟩
  · refine ⟨hl, .inr ⟨g, cap, cur, rfl, hg, ?_, hr⟩⟩
    rw [Lib.iterAt_other _ _ _ _ _ (fun e => hne (by simp [Value.ownBlock, e]))]
    exact hb

/-- A call met inside a region that draws its order: what it leaves is one more world of the class. -/
theorem regrown_of {P : Program} {f : FuncId} {args : Array Value} {w : World} {p : Regrown} {v : Value}
    (h : ∀ W, Calls P f args W fun e w' => e = .returned v ∧ Below W.heap.size W w') : Calls P f args (Go.Sort.grow (redrawn w p.d) p.os) fun e w'' => e = .returned v ∧ ∃ p : Regrown, w'' = Go.Sort.grow (redrawn w p.d) p.os :=
  Calls.regrown_of (h _)

theorem below_of_same {P : Program} {f : FuncId} {args : Array Value} {w : World} {v : Value} (h : Calls P f args w fun e w' => e = .returned v ∧ w = w') : Calls P f args w fun e w' => e = .returned v ∧ Below w.heap.size w w' :=
  h.mono fun _ _ ⟨he, hw⟩ => ⟨he, hw ▸ Below.refl _ _⟩

/-- Behind a quiet region: what lay below lies there still. -/
theorem below_of_regrown {B : Nat} {w0 w : World} {d : Nat} {os : Array Obj} (h : Below B w0 w) (hB : B ≤ w.heap.size) : Below B w0 (Go.Sort.grow (redrawn w d) os) :=
  h.trans ((below_regrown w d os).mono hB)
theorem size_regrown {w : World} {d : Nat} {os : Array Obj} : w.heap.size ≤ (Go.Sort.grow (redrawn w d) os).heap.size := (below_regrown w d os).size
end Go.Proofs.YtjfcjpbolokfcaaGreatDoor
