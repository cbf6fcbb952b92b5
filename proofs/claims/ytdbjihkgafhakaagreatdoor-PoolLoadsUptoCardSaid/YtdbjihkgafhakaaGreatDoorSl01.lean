/-
 Small laws on memory, over any program: an append of one element, bytes to a string, what a call leaves below.
 Names: the runes of a text, their kinds; plain.
 text.Name and what it calls: a text is a name just if 'nameB' says so.
 text.Name: a text is a name just if 'nameB' says so; the reference's own.
 Platforms, plain: pieces of a text, the pair of a piece, the pairs of a platform, how they are shown; what strings.Cut, Contains and Split come to at one byte.
 Platforms by rising keys, plain.
 The library's functions that platforms call, by the shelf's contracts: strings.Cut, Contains, Split, Join, Compare; slices.ContainsFunc and SortFunc at pairs.
-/
import Derived.Test.YtdbjihkgafhakaaGreatDoorRows
import Derived.WalkKit
import Derived.WalkSpells
import Derived.WalkLawsBesides
import Derived.Lib.Hide
import Derived.PlainAid
import Derived.BigQuiet
import Derived.Deep.DeepMust
import Derived.Deep.DeepFit
import Derived.Lib.QuietBelow
import Derived.Lib.OthersKept
import Derived.Lib.Bytealg
import Derived.Lib.Split
import Derived.Lib.Join
import Derived.Lib.IndexBytes
import Derived.Shelf.Strings.Search3
import Derived.Shelf.Strings.Cut
import Derived.Shelf.Strings.Split
import Derived.Shelf.Strings.OnBuilder
import Derived.Shelf.Small.Strs
import Derived.Shelf.Small.Bits
import Derived.Shelf.SlicesQ.IndexFunc
import Derived.Shelf.SlSortCmp.SmallK
namespace Go.Proofs.YtdbjihkgafhakaaGreatDoor
open Go.RowKit
def Zc2 (w : World) (e : Ending) (w' : World) : Prop := e = .returned (.bool true) ∧ Below w.heap.size w w'
theorem ZM {k : IntKind} {a b : Int} (h : a = b) : Ending.returned (.int k a) = .returned (.int k b) := by rw [h]
theorem Zo {a b : Bool} (h : a = b) : Ending.returned (.bool a) = .returned (.bool b) := by rw [h]
theorem Zm {w : World} {cs : Array Value} {t : TypeId} {i : Nat} {v : Value} (h : cs[i]? = some v) : (w.alloc (.cells cs t)).cell? ⟨w.heap.size, i, none⟩ = some v := by
 simp only [World.cell?, World.alloc, Array.getElem?_push_size]
 exact h
theorem Zdj {a b : ByteArray} (h : a.data.toList = b.data.toList) : a = b := by
 obtain ⟨a⟩ := a
 obtain ⟨b⟩ := b
 simp at h
 rw [h]
theorem ba_ne {a b : ByteArray} (h : a ≠ b) : (a == b) = false := by
 rw [beq_toListBytes, ByteArray.toList_eq, ByteArray.toList_eq]
 exact beq_eq_false_iff_ne.2 fun e => h (Zdj e)
theorem Zeb (a : ByteArray) : (a.toList == a.toList) = true := by simp
theorem ZfK {a b : ByteArray} (h : a ≠ b) : (a.toList == b.toList) = false := by rw [← beq_toListBytes]; exact ba_ne h
def bv (b : UInt8) : Value := .int .u8 (b.toNat : Int)
section
variable {P : Program}
theorem ZeY {w : World} {u : Value} {e : TypeId} {ops : Array Oper} {rest : List Oper} {o : Oper} {a : Act} {Q : Exit → Act → World → Prop} (hgd : o.guard = none) (s x : Operand) (t : TypeId)
 (hop : o.op = Op.call { callee := Callee.builtin Builtin.append, args := #[s, x], argTypes := #[t, t] }) (base : Nat) (z : Value) (bytes : Nat)
 (ht : P.underlying t = some (TypeDesc.slice e)) (hinfo : (P.info? e).map (fun i => (i.zero, i.size, i.bytes)) = some (some z, 1, bytes)) (hz : z.cells.size = 1)
 (v : Value) (n : Nat) (xs : List Value) (hs : a.eval s = v) (hown : w.ownsRow base e 1 v n xs) (hx : a.eval x = Value.slice (some ⟨w.heap.size, 0, none⟩) 1 1)
 (hu : u.oneCell' = true) (hb : base ≤ w.heap.size) (hn : n < 140737488355328) (hby : (n + 1) * bytes ≤ 140737488355328)
 (hK : ∀ (v' : Value) (w' : World), w'.ownsRow base e 1 v' (n + 1) (xs ++ [u]) → w.grownBy w' v.ownBlock → v' ≠ Value.slice none 0 0 →
   wpList P ops Q rest (a.put o.dst v') w') :
 wpList P ops Q (o :: rest) a (w.alloc (.cells #[u] e)) := by
 obtain ⟨i0, hi, hz0, hz1, hz2⟩ := info_parts hinfo
 refine wpList_append_own _ hgd s x t hop base e i0 z 1 bytes ht hi hz0 hz1 hz2 hz (by decide) v n xs hs (hown.alloc _) ⟨w.heap.size, 0, none⟩ 1 1 [u] hx rfl ?_ ?_ ?_ hby ?_ ?_
 ·exact cell_one_new _ _ _
 ·intro y hy
  simp at hy
  subst hy
  exact hu
 ·unfold maxLen; omega
 ·simp; omega
 ·intro v' w' h1 h2 h3
  refine hK v' w' h1 ⟨h2.os, h2.tape, h2.output, by have := h2.size; simp at this; omega, fun k hk hne => ?_⟩ ?_
  ·rw [h2.block k (by simp; omega) hne]
   exact Below.heap_alloc _ _ _ hk
  ·intro he
   have := (h3.1 he).2
   omega
theorem Zat {w : World} {ops : Array Oper} {rest : List Oper} {o : Oper} {a : Act} {Q : Exit → Act → World → Prop} {g : Nat} {cs : Array Value} {t : TypeId} {fr : Nat × Nat} {d : TypeDesc} (ty : TypeId) (hg : w.heap[g]? = some (.cells cs t fr))
 (hu : P.underlying ty = some d) (hd : (match d with | .struct _ | .array _ _ => true | _ => false) = true) (hi : (P.info? ty).map (·.size) = some cs.size)
 (hw : Region.wanted o (yielded ops a.tmps) = true) (x : Operand) (ho : o.op = .load ty x) (hx : a.eval x = .pointer (some ⟨g, 0, none⟩))
 (h : wpList P ops Q rest (a.put o.dst (.agg cs)) w) : wpList P ops Q (o :: rest) a w := by
 unfold wpList
 rw [if_pos hw]
 exact .inl (wp_load_row ty x ho g hx t cs fr d hg hu hd hi h)
end
theorem Zc {w w' : World} (hb : Below w.heap.size w w') {a : Addr} {v : Value} (h : w.cell? a = some v) : w'.cell? a = some v := by
 rw [hb.cell (World.block_lt_of_cell? w a h)]; exact h
theorem box_below {w : World} {o : Obj} : Below w.heap.size w (w.alloc o) := (Below.refl _ _).alloc (Nat.le_refl _) _
theorem Zy {w w1 : World} {o : Obj} (h : Below (w.alloc o).heap.size (w.alloc o) w1) : Below w.heap.size w w1 := box_below.trans (h.mono (by simp))
theorem ZmI {w : World} {base : Nat} {e : TypeId} {v : Value} {n : Nat} {xs : List Value} (h : w.ownsRow base e 1 v n xs) :
 ∃ a cap, v = .slice a n cap ∧ xs.length = n ∧ ∀ i u, xs[i]? = some u → ∃ g, a = some ⟨g, 0, none⟩ ∧ base ≤ g ∧ w.cell? ⟨g, i, none⟩ = some u := by
 obtain ⟨hl, ⟨rfl, rfl⟩ | ⟨g, cap, cur, rfl, hg, hb, hn, hc, hcs, htk⟩⟩ := h
 ·have hl' : xs.length = 0 := by simpa using hl
  refine ⟨none, 0, rfl, hl', fun i u hu => ?_⟩
  rw [List.getElem?_eq_none (by omega)] at hu
  cases hu
 ·have hl' : xs.length = n := by simpa using hl
  refine ⟨_, cap, rfl, hl', fun i u hu => ⟨g, rfl, hg, ?_⟩⟩
  have hi : i < n := by
   rcases Nat.lt_or_ge i n with h | h
   ·exact h
   ·rw [List.getElem?_eq_none (by omega)] at hu; cases hu
  rw [← htk, List.getElem?_take_of_lt (by omega)] at hu
  have h2 : cur[i]? = some u := by simpa using hu
  simp [World.cell?, hb, h2]
theorem Ze0 {w : World} {base : Nat} {e : TypeId} {size : Nat} {v : Value} {n : Nat} {xs : List Value} (h : w.ownsRow base e size v n xs) {k : Nat} {s : ByteArray} {pos : Nat} (hk : w.heap[k]? = some (.stringIter s pos)) : some k ≠ v.ownBlock := by
 intro he
 obtain ⟨_, ⟨rfl, _⟩ | ⟨g, cap, cur, rfl, _, hb, _⟩⟩ := h
 ·simp [Value.ownBlock] at he
 ·simp [Value.ownBlock] at he
  subst he
  rw [hk] at hb
  cases hb
theorem Zka {w : World} {base : Nat} {e : TypeId} {size : Nat} {v : Value} {n : Nat} {xs : List Value} (h : w.ownsRow base e size v n xs) {k : Nat} {s : ByteArray} {pos : Nat} (hk : w.heap[k]? = some (.stringIter s pos)) (pos' : Nat) : (w.iterAt k s pos').ownsRow base e size v n xs := by
 have hne := Ze0 h hk
 obtain ⟨hl, ⟨rfl, h0⟩ | ⟨g, cap, cur, rfl, hg, hb, hr⟩⟩ := h
 ·exact ⟨hl, .inl ⟨rfl, h0⟩⟩
 ·refine ⟨hl, .inr ⟨g, cap, cur, rfl, hg, ?_, hr⟩⟩
  rw [Lib.iterAt_other _ _ _ _ _ (fun e => hne (by simp [Value.ownBlock, e]))]
  exact hb
theorem regrown_of {P : Program} {f : FuncId} {args : Array Value} {w : World} {p : Regrown} {v : Value}
 (h : ∀ W, Calls P f args W fun e w' => e = .returned v ∧ Below W.heap.size W w') : Calls P f args (Go.Sort.grow (redrawn w p.d) p.os) fun e w'' => e = .returned v ∧ ∃ p : Regrown, w'' = Go.Sort.grow (redrawn w p.d) p.os :=
 Calls.regrown_of (h _)
theorem Zp {B : Nat} {w0 w : World} {d : Nat} {os : Array Obj} (h : Below B w0 w) (hB : B ≤ w.heap.size) : Below B w0 (Go.Sort.grow (redrawn w d) os) :=
 h.trans ((below_regrown w d os).mono hB)
def Zag (s : ByteArray) : Nat → Nat → List Nat
 | 0, _ => []
 | f + 1, pos => if pos < s.size then (Utf8.decode s pos).1 :: Zag s f (pos + (Utf8.decode s pos).2) else []
def runes (s : ByteArray) : List Nat := Zag s s.size 0
theorem ZfL (s : ByteArray) (f pos : Nat) (h : ¬ pos < s.size) : Zag s f pos = [] := by cases f <;> simp [Zag, h]
theorem Ze1 (s : ByteArray) (f pos : Nat) (h : pos < s.size) (hf : s.size ≤ pos + f) : ∃ g, f = g + 1 ∧ Zag s f pos = (Utf8.decode s pos).1 :: Zag s g (pos + (Utf8.decode s pos).2) := by
 obtain ⟨g, rfl⟩ : ∃ g, f = g + 1 := ⟨f - 1, by omega⟩
 exact ⟨g, rfl, by simp [Zag, h]⟩
def DecOk (d : Nat × Nat) : Prop := d.1 < 1114112 ∧ 1 ≤ d.2 ∧ (d.1 < 1104 → d.2 ≤ 2)
theorem Zbx {c : Prop} [Decidable c] {a b : Nat × Nat} (ha : c → DecOk a) (hb : DecOk b) : DecOk (if c then a else b) := by
 by_cases h : c
 ·rw [if_pos h]; exact ha h
 ·rw [if_neg h]; exact hb
theorem Zc3 : DecOk (Utf8.runeError, 1) := ⟨by decide, by decide, by decide⟩
theorem ZhF {c : Nat} (h : Utf8.valid c = true) : c < 1114112 := by
 simp [Utf8.valid] at h
 omega
theorem Zle (s : ByteArray) (pos : Nat) : DecOk (Utf8.decode s pos) := by
 unfold Utf8.decode
 refine Zbx (fun h => ?_) (Zbx (fun _ => Zbx (fun _ => ?_) Zc3) (Zbx (fun _ => Zbx (fun h => ?_) Zc3) (Zbx (fun _ => Zbx (fun h => ?_) Zc3) Zc3)))
 ·refine ⟨?_, by simp only []; omega, fun _ => by simp only []; omega⟩
  show (s.get! (pos + 0)).toNat < 1114112
  have := UInt8.toNat_lt (s.get! (pos + 0))
  omega
 ·refine ⟨?_, by simp only []; omega, fun _ => by simp only []; omega⟩
  show (s.get! (pos + 0)).toNat % 32 * 64 + (s.get! (pos + 1)).toNat % 64 < 1114112
  omega
 ·simp only [Bool.and_eq_true, decide_eq_true_eq] at h
  exact ⟨ZhF h.2, by simp only []; omega, fun h2 => absurd h.1 (by simp only [] at h2; omega)⟩
 ·simp only [Bool.and_eq_true, decide_eq_true_eq] at h
  exact ⟨ZhF h.2, by simp only []; omega, fun h2 => absurd h.1 (by simp only [] at h2; omega)⟩
theorem Zb5 (s : ByteArray) (pos : Nat) : (Utf8.decode s pos).1 < 1114112 ∧ 1 ≤ (Utf8.decode s pos).2 ∧ ((Utf8.decode s pos).1 < 1104 → (Utf8.decode s pos).2 ≤ 2) := Zle s pos
def btw (a r b : Nat) : Bool := decide (a ≤ r) && decide (r ≤ b)
def ZW (r : Nat) : Bool := btw 97 r 122 || (btw 224 r 254 && decide (r ≠ 247)) || (btw 945 r 969 && decide (r ≠ 962)) || btw 1072 r 1103
def ZaG (r : Nat) : Bool := btw 65 r 90 || (btw 192 r 222 && decide (r ≠ 215)) || (btw 913 r 937 && decide (r ≠ 930)) || btw 1040 r 1071
theorem Zba (r : Nat) : ZW r = (btw 97 r 122 || (btw 224 r 254 && decide (r ≠ 247)) || (btw 945 r 969 && decide (r ≠ 962)) || btw 1072 r 1103) := rfl
theorem Zbb (r : Nat) : ZaG r = (btw 65 r 90 || (btw 192 r 222 && decide (r ≠ 215)) || (btw 913 r 937 && decide (r ≠ 930)) || btw 1040 r 1071) := rfl
theorem Zb6 (r : Nat) : ZaG r = (decide (65 ≤ r) && ZW (r + 32)) := by
 rw [Bool.eq_iff_iff]
 simp [ZaG, ZW, btw]
 omega
def kindN (r : Nat) : Nat := if ZW r then 1 else if 48 ≤ r ∧ r ≤ 57 then 2 else if r = 45 ∨ r = 46 then 3 else if ZaG r then 4 else 0
def okR (r : Nat) : Bool := kindN r != 0 && kindN r != 4
def nameB (s : ByteArray) : Bool := (runes s).all okR && decide (1 ≤ (runes s).length ∧ (runes s).length ≤ 16)
theorem Zoa {r : Nat} (h : okR r = true) : r < 1104 := by
 by_cases hr : r < 1104
 ·exact hr
 ·have h1 : ZW r = false := by simp [ZW, btw]; omega
  have h2 : ZaG r = false := by simp [ZaG, btw]; omega
  have : kindN r = 0 := by
   unfold kindN
   rw [h1, h2, if_neg (by simp), if_neg (by omega), if_neg (by omega), if_neg (by simp)]
  simp [okR, this] at h
theorem Ze2 (s : ByteArray) : ∀ f pos, s.size ≤ pos + f → (Zag s f pos).all okR = true → s.size ≤ pos + 2 * (Zag s f pos).length
 | 0, pos, h, _ => by simp [Zag]; omega
 | f + 1, pos, h, ha => by
   by_cases hp : pos < s.size
   ·have hd := Zb5 s pos
    simp only [Zag, hp, if_true, List.all_cons, Bool.and_eq_true, List.length_cons] at ha ⊢
    have hw := hd.2.2 (Zoa ha.1)
    have := Ze2 s f (pos + (Utf8.decode s pos).2) (by omega) ha.2
    omega
   ·simp [Zag, hp]; omega
theorem Zkb {s : ByteArray} (h : nameB s = true) : s.size ≤ 32 := by
 simp only [nameB, Bool.and_eq_true, decide_eq_true_eq] at h
 have := Ze2 s s.size 0 (by omega) h.1
 have h2 := h.2
 unfold runes at h2
 omega
def hasN (a b c r : Nat) : Bool := decide (a ≤ r) && (decide (r ≤ b) && decide (r ≠ c))
set_option maxHeartbeats 400000 in
theorem ZjQ (a b c r : Nat) (w : World) :
 Calls Tryz.prog 148 #[.agg #[.int .i32 a, .int .i32 b, .int .i32 c], .int .i32 r] w fun e w' => e = .returned (.bool (hasN a b c r)) ∧ Below w.heap.size w w' := by
 by_cases h1 : a ≤ r
 ·by_cases h2 : r ≤ b
  ·by_cases h3 : r = c
   ·have H := Lib.hid (show hasN a b c r = false by simp [hasN, h3])
    have h4 : ((r : Int) != (c : Int)) = false := by simp [h3]
    clear h3
    go_enter Tryz.func148, Tryz.ntmps148
    go_wp2
    go_ret
    exact ⟨Zo H.out.symm, (Below.refl _ _).alloc (Nat.le_refl _) _⟩
   ·have H := Lib.hid (show hasN a b c r = true by simp [hasN, h1, h2, h3])
    have h4 : ((r : Int) != (c : Int)) = true := by rw [bne_iff_ne]; omega
    clear h3
    go_enter Tryz.func148, Tryz.ntmps148
    go_wp2
    go_ret
    exact ⟨Zo H.out.symm, (Below.refl _ _).alloc (Nat.le_refl _) _⟩
  ·have H := Lib.hid (show hasN a b c r = false by simp [hasN, h2])
   go_enter Tryz.func148, Tryz.ntmps148
   go_wp2
   go_ret
   exact ⟨Zo H.out.symm, (Below.refl _ _).alloc (Nat.le_refl _) _⟩
 ·have H := Lib.hid (show hasN a b c r = false by simp [hasN, h1])
  go_enter Tryz.func148, Tryz.ntmps148
  go_wp2
  go_ret
  exact ⟨Zo H.out.symm, (Below.refl _ _).alloc (Nat.le_refl _) _⟩
def aN (k : Nat) : Nat := [97, 224, 945, 1072].getD k 0
def bN (k : Nat) : Nat := [122, 254, 969, 1103].getD k 0
def cN (k : Nat) : Nat := [0, 247, 962, 0].getD k 0
def ZcM : Array Value := #[.int .i32 97, .int .i32 122, .int .i32 0, .int .i32 224, .int .i32 254, .int .i32 247, .int .i32 945, .int .i32 969, .int .i32 962, .int .i32 1072, .int .i32 1103, .int .i32 0]
theorem ZiT : ∀ k : Fin 4, ZcM[k.val * 3]? = some (.int .i32 (aN k.val)) ∧ ZcM[k.val * 3 + 1]? = some (.int .i32 (bN k.val)) ∧ ZcM[k.val * 3 + 2]? = some (.int .i32 (cN k.val)) := by
 intro k
 match k with
 | ⟨0, _⟩ => exact ⟨rfl, rfl, rfl⟩
 | ⟨1, _⟩ => exact ⟨rfl, rfl, rfl⟩
 | ⟨2, _⟩ => exact ⟨rfl, rfl, rfl⟩
 | ⟨3, _⟩ => exact ⟨rfl, rfl, rfl⟩
theorem ZfM (r : Nat) : ZW r = (hasN (aN 0) (bN 0) (cN 0) r || (hasN (aN 1) (bN 1) (cN 1) r || (hasN (aN 2) (bN 2) (cN 2) r || hasN (aN 3) (bN 3) (cN 3) r))) := by
 rw [Bool.eq_iff_iff]
 simp [ZW, btw, hasN, aN, bN, cN]
 omega
set_option maxHeartbeats 400000 in
theorem ZmJ (w : World) :
 Calls Tryz.prog 147 #[] w fun e w' => e = .returned (.slice (some ⟨w.heap.size, 0, none⟩) 4 4) ∧ w.alloc (.cells ZcM 230) = w' := by
 go_enter Tryz.func147, Tryz.ntmps147
 go_wp2
 go_ret
 exact ⟨rfl, rfl⟩
theorem Zlf {r k : Nat} (hk : k < 4) (h : hasN (aN k) (bN k) (cN k) r = true) : ZW r = true := by
 rw [ZfM]
 match k, hk with
 | 0, _ => simp [h]
 | 1, _ => simp [h]
 | 2, _ => simp [h]
 | 3, _ => simp [h]
theorem Zkc {r : Nat} (h : ∀ k, k < 4 → hasN (aN k) (bN k) (cN k) r = false) : ZW r = false := by
 rw [ZfM, h 0 (by omega), h 1 (by omega), h 2 (by omega), h 3 (by omega)]
 rfl
set_option maxHeartbeats 400000 in
theorem ZaB (r : Nat) (w : World) :
 Calls Tryz.prog 141 #[.int .i32 r] w fun e w' => e = .returned (.bool (ZW r)) ∧ Below w.heap.size w w' := by
 go_enter Tryz.func141, Tryz.ntmps141
 go_wp2_with fail
 refine (ZmJ _).mono ?_
 rintro e w1 ⟨rfl, rfl⟩
 go_wp2
 go_loopw [7] (fun i wr => ∃ k : Nat, k ≤ 4 ∧ i = .int .i64 k ∧ Below (w.heap.size + 1) (w.alloc (.cells ZcM 230)) wr ∧ ∀ j, j < k → hasN (aN j) (bN j) (cN j) r = false)
  (fun i _ => 4 - (intOf i).toNat)
 case atStart => exact ⟨0, by omega, rfl, Below.refl _ _, fun j hj => by omega⟩
 case round =>
  obtain ⟨k, hk, rfl, hb, hno⟩ := hrel
  have HN := Lib.hid hno; clear hno
  by_cases hlt : k < 4
  ·obtain ⟨c0, c1, c2⟩ := ZiT ⟨k, hlt⟩
   have d0 : wr.cell? ⟨w.heap.size, k * 3, none⟩ = some (.int .i32 (aN k)) := by rw [hb.cell (by simp)]; exact Zm c0
   have d1 : wr.cell? ⟨w.heap.size, k * 3 + 1, none⟩ = some (.int .i32 (bN k)) := by rw [hb.cell (by simp)]; exact Zm c1
   have d2 : wr.cell? ⟨w.heap.size, k * 3 + 2, none⟩ = some (.int .i32 (cN k)) := by rw [hb.cell (by simp)]; exact Zm c2
   clear c0 c1 c2
   rcases Bool.eq_false_or_eq_true (hasN (aN k) (bN k) (cN k) r) with hh | hh
   ·have HR := Lib.hid (Zlf hlt hh)
    go_wp2_with fail
    refine (ZjQ _ _ _ _ _).mono ?_
    rintro e w2 ⟨rfl, hb2⟩
    go_wp2
    go_ret
    exact ⟨Zo HR.out.symm, ((Below.refl _ _).alloc (Nat.le_refl _) _).trans ((hb.mono (by omega)).trans (((Below.refl _ _).alloc (by have := hb.size; simp at this; omega) _).trans (hb2.mono (by have := hb.size; simp at this; simp; omega))))⟩
   ·have HR := Lib.hid hh
    go_wp2_with fail
    refine (ZjQ _ _ _ _ _).mono ?_
    rintro e w2 ⟨rfl, hb2⟩
    go_wp2
    go_roundw
    case rel =>
     refine ⟨k + 1, by omega, by go_num, (hb.alloc (by have := hb.size; simp at this; omega) _).trans (hb2.mono (by have := hb.size; simp at this; simp; omega)), fun j hj => ?_⟩
     rcases Nat.lt_or_ge j k with h | h
     ·exact HN.out j h
     ·obtain rfl : j = k := by omega
      exact HR.out
    case measure => simp [intOf]; omega
  ·go_wp2
   go_ret
   exact ⟨Zo (Zkc (fun j hj => HN.out j (by omega))).symm, ((Below.refl _ _).alloc (Nat.le_refl _) _).trans (hb.mono (by omega))⟩
theorem Ze3 {r : Nat} (h : ZW r = true) : kindN r = 1 := by unfold kindN; rw [if_pos h]
theorem Ze4 {r : Nat} (h : ZW r = false) (h2 : 48 ≤ r ∧ r ≤ 57) : kindN r = 2 := by unfold kindN; rw [if_neg (by simp [h]), if_pos h2]
theorem Zdx {r : Nat} (h : ZW r = false) (h2 : ¬ (48 ≤ r ∧ r ≤ 57)) (h3 : r = 45 ∨ r = 46) : kindN r = 3 := by unfold kindN; rw [if_neg (by simp [h]), if_neg h2, if_pos h3]
theorem Ze5 {r : Nat} (h : ZW r = false) (h2 : ¬ (48 ≤ r ∧ r ≤ 57)) (h3 : ¬ (r = 45 ∨ r = 46)) (h4 : ZaG r = true) : kindN r = 4 := by unfold kindN; rw [if_neg (by simp [h]), if_neg h2, if_neg h3, if_pos h4]
theorem Zck {r : Nat} (h : ZW r = false) (h2 : ¬ (48 ≤ r ∧ r ≤ 57)) (h3 : ¬ (r = 45 ∨ r = 46)) (h4 : ZaG r = false) : kindN r = 0 := by unfold kindN; rw [if_neg (by simp [h]), if_neg h2, if_neg h3, if_neg (by simp [h4])]
set_option maxHeartbeats 400000 in
theorem ZmK (r : Nat) (w : World) (hr : r < 1114112) :
 Calls Tryz.prog 135 #[.int .i32 r] w fun e w' => e = .returned (.int .i64 (kindN r : Nat)) ∧ Below w.heap.size w w' := by
 rcases Bool.eq_false_or_eq_true (ZW r) with h1 | h1
 ·have H := Lib.hid (show kindN r = 1 from Ze3 h1)
  go_enter Tryz.func135, Tryz.ntmps135
  go_wp2_with (go_at_call 141; refine (ZaB _ _).mono ?_; rintro e w' ⟨rfl, hb⟩)
  go_ret
  exact ⟨ZM (by rw [H.out]; rfl), hb⟩
 ·by_cases h2 : 48 ≤ r
  ·by_cases h3 : r ≤ 57
   ·have H := Lib.hid (show kindN r = 2 from Ze4 h1 ⟨h2, h3⟩)
    go_enter Tryz.func135, Tryz.ntmps135
    go_wp2_with (go_at_call 141; refine (ZaB _ _).mono ?_; rintro e w' ⟨rfl, hb⟩)
    go_ret
    exact ⟨ZM (by rw [H.out]; rfl), hb⟩
   ·by_cases h4 : 65 ≤ r
    ·have h5 : ((r : Int) == 45) = false := beq_eq_false_iff_ne.2 (by omega)
     have h6 : ((r : Int) == 46) = false := beq_eq_false_iff_ne.2 (by omega)
     rcases Bool.eq_false_or_eq_true (ZW (r + 32)) with h7 | h7
     ·have H := Lib.hid (show kindN r = 4 from Ze5 h1 (by omega) (by omega) (by rw [Zb6, h7]; simp; omega))
      go_enter Tryz.func135, Tryz.ntmps135
      go_wp2_with fail
      refine (ZaB _ _).mono ?_
      rintro e w1 ⟨rfl, hb⟩
      go_wp2_with fail
      rw [show (r : Int) + 32 = ((r + 32 : Nat) : Int) from by omega]
      refine (ZaB _ _).mono ?_
      rintro e w2 ⟨rfl, hb2⟩
      go_wp2
      go_ret
      exact ⟨ZM (by rw [H.out]; rfl), hb.trans (hb2.mono hb.size)⟩
     ·have H := Lib.hid (show kindN r = 0 from Zck h1 (by omega) (by omega) (by rw [Zb6, h7]; simp))
      go_enter Tryz.func135, Tryz.ntmps135
      go_wp2_with fail
      refine (ZaB _ _).mono ?_
      rintro e w1 ⟨rfl, hb⟩
      go_wp2_with fail
      rw [show (r : Int) + 32 = ((r + 32 : Nat) : Int) from by omega]
      refine (ZaB _ _).mono ?_
      rintro e w2 ⟨rfl, hb2⟩
      go_wp2
      go_ret
      exact ⟨ZM (by rw [H.out]; rfl), hb.trans (hb2.mono hb.size)⟩
    ·have h5 : ((r : Int) == 45) = false := beq_eq_false_iff_ne.2 (by omega)
     have h6 : ((r : Int) == 46) = false := beq_eq_false_iff_ne.2 (by omega)
     have H := Lib.hid (show kindN r = 0 from Zck h1 (by omega) (by omega) (by rw [Zb6]; simp; omega))
     go_enter Tryz.func135, Tryz.ntmps135
     go_wp2_with (go_at_call 141; refine (ZaB _ _).mono ?_; rintro e w' ⟨rfl, hb⟩)
     go_ret
     exact ⟨ZM (by rw [H.out]; rfl), hb⟩
  ·by_cases h4 : r = 45
   ·subst h4
    have H := Lib.hid (show kindN 45 = 3 from Zdx (r := 45) h1 (by omega) (by omega))
    go_enter Tryz.func135, Tryz.ntmps135
    go_wp2_with (go_at_call 141; refine (ZaB _ _).mono ?_; rintro e w' ⟨rfl, hb⟩)
    go_ret
    exact ⟨ZM (by rw [H.out]; rfl), hb⟩
   ·by_cases h5 : r = 46
    ·subst h5
     have H := Lib.hid (show kindN 46 = 3 from Zdx (r := 46) h1 (by omega) (by omega))
     go_enter Tryz.func135, Tryz.ntmps135
     go_wp2_with (go_at_call 141; refine (ZaB _ _).mono ?_; rintro e w' ⟨rfl, hb⟩)
     go_ret
     exact ⟨ZM (by rw [H.out]; rfl), hb⟩
    ·have h6 : ((r : Int) == 45) = false := beq_eq_false_iff_ne.2 (by omega)
     have h7 : ((r : Int) == 46) = false := beq_eq_false_iff_ne.2 (by omega)
     have H := Lib.hid (show kindN r = 0 from Zck h1 (by omega) (by omega) (by rw [Zb6]; simp; omega))
     go_enter Tryz.func135, Tryz.ntmps135
     go_wp2_with (go_at_call 141; refine (ZaB _ _).mono ?_; rintro e w' ⟨rfl, hb⟩)
     go_ret
     exact ⟨ZM (by rw [H.out]; rfl), hb⟩
theorem Zec (s : ByteArray) (pos : Nat) : (Utf8.decode s pos).2 ≤ 4 := by
 unfold Utf8.decode
 have key : ∀ {c : Prop} [Decidable c] {a b : Nat × Nat}, a.2 ≤ 4 → b.2 ≤ 4 → (if c then a else b).2 ≤ 4 := by
  intro c _ a b ha hb
  split
  ·exact ha
  ·exact hb
 refine key ?_ (key (key ?_ ?_) (key (key ?_ ?_) (key (key ?_ ?_) ?_))) <;> simp only [] <;> omega
theorem Zgt {l r : List Nat} {x : Nat} (h : okR x = false) : (l ++ x :: r).all okR = false := by simp [h]
theorem ZgG {s : ByteArray} {l r : List Nat} {x : Nat} (h : l ++ x :: r = runes s) (hx : okR x = false) : nameB s = false := by
 unfold nameB
 rw [← h, Zgt hx]
 rfl
theorem Zlg {s : ByteArray} {l : List Nat} (h : l = runes s) (hl : l.all okR = true) : nameB s = decide (1 ≤ l.length ∧ l.length ≤ 16) := by
 unfold nameB
 rw [← h, hl]
 rfl
set_option maxHeartbeats 1000000 in
theorem Zcd (s : ByteArray) (w : World) (hs : s.size ≤ 140737488351232) :
 Calls Tryz.prog 118 #[.string s] w fun e w' => e = .returned (.bool (nameB s)) ∧ Below w.heap.size w w' := by
 go_enter Tryz.func118, Tryz.ntmps118
 go_wp2
 go_loopw [3] (fun n wr => ∃ (pos f : Nat) (l : List Nat), n = .int .i64 (l.length : Nat) ∧ l ++ Zag s f pos = runes s ∧ l.all okR = true ∧ s.size ≤ pos + f ∧ l.length ≤ pos ∧ pos ≤ s.size + 4 ∧ wr.heap[w.heap.size]? = some (.stringIter s pos) ∧ Below w.heap.size w wr)
  (fun _ wr => s.size - wr.iterPos w.heap.size)
 case atStart =>
  exact ⟨0, s.size, [], rfl, rfl, rfl, by omega, by simp, by omega, World.iter_heap _ _ _, (Below.refl _ _).alloc (Nat.le_refl _) _⟩
 case round =>
  obtain ⟨pos, f, l, rfl, hl, hok, hf, hlp, hp4, hit, hb⟩ := hrel
  have HL := Lib.hid hl; clear hl
  have HK := Lib.hid hok; clear hok
  by_cases hp : pos < s.size
  ·have hnx := fun ty => Lib.run_next_any_at (P := Tryz.prog) wr w.heap.size s pos ty hit hp
   obtain ⟨g, rfl, hg⟩ := Ze1 s f pos hp hf
   have HG := Lib.hid hg; clear hg
   obtain ⟨hd1, hd2, _⟩ := Zb5 s pos
   have hb1 : Below w.heap.size w (wr.iterAt w.heap.size s (pos + (Utf8.decode s pos).2)) := Lib.below_iterAt hb (Nat.le_refl _) _ _
   have hit1 : (wr.iterAt w.heap.size s (pos + (Utf8.decode s pos).2)).heap[w.heap.size]? = some (.stringIter s (pos + (Utf8.decode s pos).2)) := Lib.iterAt_heap _ _ _ _ _ hit
   have hsz : w.heap.size < (wr.iterAt w.heap.size s (pos + (Utf8.decode s pos).2)).heap.size := by
    rw [Lib.iterAt_size]
    exact (Array.getElem?_eq_some_iff.1 hit).1
   have HB1 := Lib.hid hb1; clear hb1
   have HI1 := Lib.hid hit1; clear hit1
   have hdw : (Utf8.decode s pos).2 ≤ 4 := Zec s pos
   go_wp2_with fail
   refine (ZmK _ _ hd1).mono ?_
   rintro e w2 ⟨rfl, hb2⟩
   have hit2 := hb2.block w.heap.size hsz
   rw [HI1.out] at hit2
   by_cases h0 : kindN (Utf8.decode s pos).1 = 0
   ·have HF := Lib.hid (ZgG (s := s) (l := l) (x := (Utf8.decode s pos).1) (r := Zag s g (pos + (Utf8.decode s pos).2)) (by rw [← HG.out, HL.out]) (by simp [okR, h0]))
    rw [h0]
    clear h0 hnx hit2
    go_wp2
    go_ret
    exact ⟨Zo HF.out.symm, HB1.out.trans (hb2.mono (by omega))⟩
   ·by_cases h4 : kindN (Utf8.decode s pos).1 = 4
    ·have HF := Lib.hid (ZgG (s := s) (l := l) (x := (Utf8.decode s pos).1) (r := Zag s g (pos + (Utf8.decode s pos).2)) (by rw [← HG.out, HL.out]) (by simp [okR, h4]))
     rw [h4]
     clear h0 h4 hnx hit2
     go_wp2
     go_ret
     exact ⟨Zo HF.out.symm, HB1.out.trans (hb2.mono (by omega))⟩
    ·have HF := Lib.hid (show okR (Utf8.decode s pos).1 = true by simp [okR, h0, h4])
     generalize hk : kindN (Utf8.decode s pos).1 = K at *
     clear hk hnx
     have e0 : ((K : Int) == 0) = false := beq_eq_false_iff_ne.2 (by omega)
     have e4 : ((K : Int) == 4) = false := beq_eq_false_iff_ne.2 (by omega)
     have HI2 := Lib.hid hit2
     clear hit2
     go_wp2
     go_roundw
     case rel =>
      exact ⟨pos + (Utf8.decode s pos).2, g, l ++ [(Utf8.decode s pos).1], by simp, by rw [List.append_assoc, List.singleton_append, ← HG.out, HL.out], by simp [HK.out, HF.out], by omega, by simp; omega, by omega, HI2.out, HB1.out.trans (hb2.mono (by omega))⟩
     case measure =>
      rw [iterPos_of HI2.out, iterPos_of hit]
      omega
  ·have hnx := fun ty => Lib.run_next_end_at (P := Tryz.prog) wr w.heap.size s pos ty hit hp
   have HE := Lib.hid (Zlg (s := s) (l := l) (by rw [← HL.out, ZfL s f pos hp, List.append_nil]) HK.out)
   by_cases h1 : 1 ≤ l.length
   ·go_wp2_with fail
    go_ret
    refine ⟨Zo ?_, hb⟩
    rw [HE.out, Bool.eq_iff_iff]
    simp only [decide_eq_true_eq]
    omega
   ·have H1 := Lib.hid h1
    go_wp2_with fail
    go_ret
    refine ⟨Zo ?_, hb⟩
    rw [HE.out]
    exact (decide_eq_false fun h => H1.out h.1).symm
/-! ### The reference's own -/
set_option maxHeartbeats 400000 in
theorem ZI (r a b : Nat) (w : World) :
 Calls Tryz.prog 122 #[.int .i32 r, .int .i32 a, .int .i32 b] w fun e w' => e = .returned (.bool (btw a r b)) ∧ w = w' := by
 by_cases h1 : a ≤ r
 ·by_cases h2 : r ≤ b
  ·have H := Lib.hid (show btw a r b = true by simp [btw, h1, h2])
   go_enter Tryz.func122, Tryz.ntmps122
   go_wp2
   go_ret
   exact ⟨Zo H.out.symm, rfl⟩
  ·have H := Lib.hid (show btw a r b = false by simp [btw, h2])
   go_enter Tryz.func122, Tryz.ntmps122
   go_wp2
   go_ret
   exact ⟨Zo H.out.symm, rfl⟩
 ·have H := Lib.hid (show btw a r b = false by simp [btw, h1])
  go_enter Tryz.func122, Tryz.ntmps122
  go_wp2
  go_ret
  exact ⟨Zo H.out.symm, rfl⟩
set_option maxHeartbeats 400000 in
theorem ZbI (r : Nat) (w : World) (hr : r < 1114112) :
 Calls Tryz.prog 121 #[.int .i32 r] w fun e w' => e = .returned (.bool (ZW r)) ∧ w = w' := by
 rcases Bool.eq_false_or_eq_true (btw 97 r 122) with b0 | b0
 ·have H := Lib.hid (show ZW r = true from by simp only [Zba, b0]; rfl)
  go_enter Tryz.func121, Tryz.ntmps121
  go_wp2_with (go_at_call 122; refine (ZI _ _ _ _).mono ?_; rintro e w' ⟨rfl, rfl⟩)
  go_ret
  exact ⟨Zo H.out.symm, rfl⟩
 ·rcases Bool.eq_false_or_eq_true (btw 224 r 254) with b1 | b1
  ·rcases Bool.eq_false_or_eq_true (decide (r ≠ 247)) with n1 | n1
   ·have m1 : ((r : Int) != (247 : Int)) = true := by have := of_decide_eq_true n1; rw [bne_iff_ne]; omega
    have H := Lib.hid (show ZW r = true from by simp only [Zba, b0, b1, n1]; rfl)
    go_enter Tryz.func121, Tryz.ntmps121
    go_wp2_with (go_at_call 122; refine (ZI _ _ _ _).mono ?_; rintro e w' ⟨rfl, rfl⟩)
    go_ret
    exact ⟨Zo H.out.symm, rfl⟩
   ·have m1 : ((r : Int) != (247 : Int)) = false := by have := of_decide_eq_false n1; simp at this; simp [this]
    have b2 : btw 945 r 969 = false := by have := of_decide_eq_false n1; simp at this; subst this; decide
    have b3 : btw 1072 r 1103 = false := by have := of_decide_eq_false n1; simp at this; subst this; decide
    have H := Lib.hid (show ZW r = false from by simp only [Zba, b0, b1, n1, b2, b3]; rfl)
    go_enter Tryz.func121, Tryz.ntmps121
    go_wp2_with (go_at_call 122; refine (ZI _ _ _ _).mono ?_; rintro e w' ⟨rfl, rfl⟩)
    go_ret
    exact ⟨Zo H.out.symm, rfl⟩
  ·rcases Bool.eq_false_or_eq_true (btw 945 r 969) with b2 | b2
   ·rcases Bool.eq_false_or_eq_true (decide (r ≠ 962)) with n2 | n2
    ·have m2 : ((r : Int) != (962 : Int)) = true := by have := of_decide_eq_true n2; rw [bne_iff_ne]; omega
     have H := Lib.hid (show ZW r = true from by simp only [Zba, b0, b1, b2, n2]; rfl)
     go_enter Tryz.func121, Tryz.ntmps121
     go_wp2_with (go_at_call 122; refine (ZI _ _ _ _).mono ?_; rintro e w' ⟨rfl, rfl⟩)
     go_ret
     exact ⟨Zo H.out.symm, rfl⟩
    ·have m2 : ((r : Int) != (962 : Int)) = false := by have := of_decide_eq_false n2; simp at this; simp [this]
     have b3 : btw 1072 r 1103 = false := by have := of_decide_eq_false n2; simp at this; subst this; decide
     have H := Lib.hid (show ZW r = false from by simp only [Zba, b0, b1, b2, n2, b3]; rfl)
     go_enter Tryz.func121, Tryz.ntmps121
     go_wp2_with (go_at_call 122; refine (ZI _ _ _ _).mono ?_; rintro e w' ⟨rfl, rfl⟩)
     go_ret
     exact ⟨Zo H.out.symm, rfl⟩
   ·rcases Bool.eq_false_or_eq_true (btw 1072 r 1103) with b3 | b3
    ·have H := Lib.hid (show ZW r = true from by simp only [Zba, b0, b1, b2, b3]; rfl)
     go_enter Tryz.func121, Tryz.ntmps121
     go_wp2_with (go_at_call 122; refine (ZI _ _ _ _).mono ?_; rintro e w' ⟨rfl, rfl⟩)
     go_ret
     exact ⟨Zo H.out.symm, rfl⟩
    ·have H := Lib.hid (show ZW r = false from by simp only [Zba, b0, b1, b2, b3]; rfl)
     go_enter Tryz.func121, Tryz.ntmps121
     go_wp2_with (go_at_call 122; refine (ZI _ _ _ _).mono ?_; rintro e w' ⟨rfl, rfl⟩)
     go_ret
     exact ⟨Zo H.out.symm, rfl⟩
set_option maxHeartbeats 400000 in
theorem ZfN (r : Nat) (w : World) (hr : r < 1114112) :
 Calls Tryz.prog 123 #[.int .i32 r] w fun e w' => e = .returned (.bool (ZaG r)) ∧ w = w' := by
 rcases Bool.eq_false_or_eq_true (btw 65 r 90) with b0 | b0
 ·have H := Lib.hid (show ZaG r = true from by simp only [Zbb, b0]; rfl)
  go_enter Tryz.func123, Tryz.ntmps123
  go_wp2_with (go_at_call 122; refine (ZI _ _ _ _).mono ?_; rintro e w' ⟨rfl, rfl⟩)
  go_ret
  exact ⟨Zo H.out.symm, rfl⟩
 ·rcases Bool.eq_false_or_eq_true (btw 192 r 222) with b1 | b1
  ·rcases Bool.eq_false_or_eq_true (decide (r ≠ 215)) with n1 | n1
   ·have m1 : ((r : Int) != (215 : Int)) = true := by have := of_decide_eq_true n1; rw [bne_iff_ne]; omega
    have H := Lib.hid (show ZaG r = true from by simp only [Zbb, b0, b1, n1]; rfl)
    go_enter Tryz.func123, Tryz.ntmps123
    go_wp2_with (go_at_call 122; refine (ZI _ _ _ _).mono ?_; rintro e w' ⟨rfl, rfl⟩)
    go_ret
    exact ⟨Zo H.out.symm, rfl⟩
   ·have m1 : ((r : Int) != (215 : Int)) = false := by have := of_decide_eq_false n1; simp at this; simp [this]
    have b2 : btw 913 r 937 = false := by have := of_decide_eq_false n1; simp at this; subst this; decide
    have b3 : btw 1040 r 1071 = false := by have := of_decide_eq_false n1; simp at this; subst this; decide
    have H := Lib.hid (show ZaG r = false from by simp only [Zbb, b0, b1, n1, b2, b3]; rfl)
    go_enter Tryz.func123, Tryz.ntmps123
    go_wp2_with (go_at_call 122; refine (ZI _ _ _ _).mono ?_; rintro e w' ⟨rfl, rfl⟩)
    go_ret
    exact ⟨Zo H.out.symm, rfl⟩
  ·rcases Bool.eq_false_or_eq_true (btw 913 r 937) with b2 | b2
   ·rcases Bool.eq_false_or_eq_true (decide (r ≠ 930)) with n2 | n2
    ·have m2 : ((r : Int) != (930 : Int)) = true := by have := of_decide_eq_true n2; rw [bne_iff_ne]; omega
     have H := Lib.hid (show ZaG r = true from by simp only [Zbb, b0, b1, b2, n2]; rfl)
     go_enter Tryz.func123, Tryz.ntmps123
     go_wp2_with (go_at_call 122; refine (ZI _ _ _ _).mono ?_; rintro e w' ⟨rfl, rfl⟩)
     go_ret
     exact ⟨Zo H.out.symm, rfl⟩
    ·have m2 : ((r : Int) != (930 : Int)) = false := by have := of_decide_eq_false n2; simp at this; simp [this]
     have b3 : btw 1040 r 1071 = false := by have := of_decide_eq_false n2; simp at this; subst this; decide
     have H := Lib.hid (show ZaG r = false from by simp only [Zbb, b0, b1, b2, n2, b3]; rfl)
     go_enter Tryz.func123, Tryz.ntmps123
     go_wp2_with (go_at_call 122; refine (ZI _ _ _ _).mono ?_; rintro e w' ⟨rfl, rfl⟩)
     go_ret
     exact ⟨Zo H.out.symm, rfl⟩
   ·rcases Bool.eq_false_or_eq_true (btw 1040 r 1071) with b3 | b3
    ·have H := Lib.hid (show ZaG r = true from by simp only [Zbb, b0, b1, b2, b3]; rfl)
     go_enter Tryz.func123, Tryz.ntmps123
     go_wp2_with (go_at_call 122; refine (ZI _ _ _ _).mono ?_; rintro e w' ⟨rfl, rfl⟩)
     go_ret
     exact ⟨Zo H.out.symm, rfl⟩
    ·have H := Lib.hid (show ZaG r = false from by simp only [Zbb, b0, b1, b2, b3]; rfl)
     go_enter Tryz.func123, Tryz.ntmps123
     go_wp2_with (go_at_call 122; refine (ZI _ _ _ _).mono ?_; rintro e w' ⟨rfl, rfl⟩)
     go_ret
     exact ⟨Zo H.out.symm, rfl⟩
abbrev Pr := ByteArray × ByteArray
def ba (l : List UInt8) : ByteArray := ⟨l.toArray⟩
theorem Zab (l : List UInt8) : (ba l).data.toList = l := by simp [ba]
theorem ba_of (s : ByteArray) : ba s.data.toList = s := by obtain ⟨a⟩ := s; simp [ba]
def Zu (c : UInt8) : List UInt8 → List (List UInt8)
 | [] => [[]]
 | x :: r => if x = c then [] :: Zu c r else match Zu c r with | [] => [[x]] | p :: ps => (x :: p) :: ps
theorem ZaV {c : UInt8} : ∀ {s : List UInt8}, c ∉ s → Zu c s = [s]
 | [], _ => rfl
 | x :: r, h => by
   rw [Zu, if_neg (fun e => h (by simp [e])), ZaV (s := r) (fun e => h (List.mem_cons_of_mem _ e))]
theorem ZaR {c : UInt8} : ∀ {a b : List UInt8}, c ∉ a → Zu c (a ++ c :: b) = a :: Zu c b
 | [], b, _ => by simp [Zu]
 | x :: r, b, h => by
   rw [List.cons_append, Zu, if_neg (fun e => h (by simp [e])), ZaR (a := r) (fun e => h (List.mem_cons_of_mem _ e))]
theorem ZgH (c : UInt8) (s : List UInt8) : Zu c s ≠ [] := by
 cases s with
 | nil => simp [Zu]
 | cons x r =>
   rw [Zu]
   split
   ·simp
   ·split <;> simp
theorem Zdy {c : UInt8} (s : List UInt8) : c ∉ s ∨ ∃ a b, s = a ++ c :: b ∧ c ∉ a := by
 by_cases h : c ∈ s
 ·exact .inr (List.eq_append_cons_of_mem h)
 ·exact .inl h
theorem Zdk {c : UInt8} : ∀ {s : List UInt8}, c ∉ s → Lib.indexByte s c = -1
 | [], _ => rfl
 | x :: r, h => by
   have h1 : ¬ (x == c) = true := fun e => h (by simp [beq_iff_eq.1 e])
   rw [Lib.indexByte, if_neg h1, Zdk (s := r) (fun e => h (List.mem_cons_of_mem _ e))]
   rfl
theorem Zd2 {c : UInt8} : ∀ {a b : List UInt8}, c ∉ a → Lib.indexByte (a ++ c :: b) c = a.length
 | [], b, _ => by simp [Lib.indexByte]
 | x :: r, b, h => by
   have h1 : ¬ (x == c) = true := fun e => h (by simp [beq_iff_eq.1 e])
   have ih := Zd2 (a := r) (b := b) (fun e => h (List.mem_cons_of_mem _ e))
   rw [List.cons_append, Lib.indexByte, if_neg h1, ih, if_neg (by rw [beq_iff_eq]; omega)]
   simp
theorem Zdz {c : UInt8} {s : List UInt8} (h : c ∉ s) : Lib.index s [c] = -1 := by rw [Lib.index_one, Zdk h]
theorem Zc4 {c : UInt8} {a b : List UInt8} (h : c ∉ a) : Lib.index (a ++ c :: b) [c] = a.length := by rw [Lib.index_one, Zd2 h]
theorem ZfA {c : UInt8} (a b : List UInt8) : (a ++ c :: b).drop (a.length + 1) = b := by
 rw [show a ++ c :: b = (a ++ [c]) ++ b by simp]
 exact List.drop_left' (by simp)
theorem ZbT {c : UInt8} {s : List UInt8} (h : c ∉ s) : Lib.contains s [c] = false := by simp [Lib.contains, Zdz h]
theorem Zhj {c : UInt8} {s : List UInt8} (h : c ∈ s) : Lib.contains s [c] = true := by
 obtain ⟨a, b, rfl, ha⟩ := List.eq_append_cons_of_mem h
 simp [Lib.contains, Zc4 ha]
theorem ZmL {c : UInt8} {s : List UInt8} (h : c ∉ s) : Lib.cut s [c] = (s, [], false) := by
 rw [Lib.cut, Zdz h, if_neg (by omega)]
theorem Zdl {c : UInt8} {a b : List UInt8} (h : c ∉ a) : Lib.cut (a ++ c :: b) [c] = (a, b, true) := by
 rw [Lib.cut, Zc4 h, if_pos (by omega)]
 simp only [Int.toNat_natCast, List.length_singleton]
 rw [ZfA]
 simp
theorem ZdA {c : UInt8} {s : List UInt8} (h : c ∉ s) : Lib.count s [c] = 0 := Lib.count_miss (Zdz h)
theorem ZgI {c : UInt8} {a b : List UInt8} (h : c ∉ a) : Lib.count (a ++ c :: b) [c] = 1 + Lib.count b [c] := by
 rw [Lib.count_hit (i := a.length) (by simp) (Zc4 h)]
 simp only [List.length_singleton]
 rw [ZfA]
theorem Zhk (c : UInt8) : ∀ (n : Nat) (s : List UInt8), s.length ≤ n → Lib.splitK [c] 0 (Lib.count s [c]) s = Zu c s := by
 intro n
 induction n with
 | zero =>
   intro s hs
   have : s = [] := List.length_eq_zero_iff.1 (by omega)
   subst this
   rw [ZdA (by simp)]
   rfl
 | succ n ih =>
   intro s hs
   rcases Zdy (c := c) s with h | ⟨a, b, rfl, ha⟩
   ·rw [ZdA h, ZaV h]
    rfl
   ·rw [ZgI ha, ZaR ha, Nat.add_comm, Lib.splitK, Zc4 ha, if_neg (by rw [beq_iff_eq]; omega)]
    simp only [Int.toNat_natCast, Nat.add_zero, List.length_singleton]
    rw [ZfA, ih b (by simp at hs; omega)]
    simp
theorem Zhl (c : UInt8) (s : ByteArray) : Lib.splitB ⟨#[c]⟩ 0 (Lib.countB s ⟨#[c]⟩) s = (Zu c s.data.toList).map ba := by
 have h := Lib.splitB_data ⟨#[c]⟩ 0 (Lib.countB s ⟨#[c]⟩) s
 have e : Lib.splitK [c] 0 (Lib.countB s ⟨#[c]⟩) s.data.toList = Zu c s.data.toList := Zhk c _ _ (Nat.le_refl _)
 rw [show (⟨#[c]⟩ : ByteArray).data.toList = [c] from rfl, e] at h
 rw [← h, List.map_map]
 conv => lhs; rw [← List.map_id (Lib.splitB ⟨#[c]⟩ 0 (Lib.countB s ⟨#[c]⟩) s)]
 exact List.map_congr_left fun x _ => (ba_of x).symm
theorem Zhm (c : UInt8) : ∀ s : List UInt8, (Zu c s).length = Lib.count s [c] + 1 := by
 intro s
 generalize hn : s.length = n
 induction n using Nat.strongRecOn generalizing s with
 | _ n ih =>
   rcases Zdy (c := c) s with h | ⟨a, b, rfl, ha⟩
   ·rw [ZdA h, ZaV h]; rfl
   ·rw [ZgI ha, ZaR ha, List.length_cons, ih b.length (by simp at hn; omega) b rfl]
    omega
theorem Zlh (c : UInt8) (s : List UInt8) : (Zu c s).length ≤ s.length + 1 := by
 induction s with
 | nil => simp [Zu]
 | cons x r ih =>
   rw [Zu]
   split
   ·simp; omega
   ·split
    ·simp
    ·rename_i p ps e
     rw [e] at ih
     simp at ih ⊢
     omega
theorem ZaL (c : UInt8) : ∀ (s : List UInt8) (p : List UInt8), p ∈ Zu c s → p.length ≤ s.length
 | [], p, h => by simp [Zu] at h; subst h; simp
 | x :: r, p, h => by
   rw [Zu] at h
   split at h
   ·rcases List.mem_cons.1 h with rfl | h
    ·simp
    ·have := ZaL c r p h; simp; omega
   ·split at h
    ·simp at h; subst h; simp
    ·rename_i q qs e
     rcases List.mem_cons.1 h with rfl | h
     ·have := ZaL c r q (by rw [e]; simp); simp; omega
     ·have := ZaL c r p (by rw [e]; exact List.mem_cons_of_mem _ h); simp; omega
theorem Ze6 (c : UInt8) : ∀ s : List UInt8, Lib.join (Zu c s) [c] = s := by
 intro s
 generalize hn : s.length = n
 induction n using Nat.strongRecOn generalizing s with
 | _ n ih =>
   rcases Zdy (c := c) s with h | ⟨a, b, rfl, ha⟩
   ·rw [ZaV h]; simp [Lib.join, List.intercalate, List.intersperse]
   ·have e := ih b.length (by simp at hn; omega) b rfl
    rw [ZaR ha]
    obtain ⟨p, ps, hp⟩ : ∃ p ps, Zu c b = p :: ps := by
     cases hb : Zu c b with
     | nil => exact absurd hb (ZgH c b)
     | cons p ps => exact ⟨p, ps, rfl⟩
    rw [hp] at e ⊢
    have e2 : Lib.join (a :: p :: ps) [c] = a ++ c :: Lib.join (p :: ps) [c] := by simp [Lib.join, List.intercalate, List.intersperse]
    rw [e2, e]
def Zby (k v : List UInt8) : Bool := nameB (ba k) && (decide (v = [42]) || nameB (ba v))
def oneE (x : List UInt8) : Int := match Zu 61 x with
 | [k, v] => if Zby k v = true then 0 else 5
 | _ => 3
def oneV (x : List UInt8) : Pr := match Zu 61 x with
 | [k, v] => (ba k, ba v)
 | _ => (ba [], ba [])
def Zah (l : List Pr) (k : ByteArray) : Bool := l.any fun p => p.1.data.toList == k.data.toList
def ZH : List Pr → List (List UInt8) → List Pr × Int
 | acc, [] => (acc, 0)
 | acc, x :: r => if oneE x ≠ 0 then ([], oneE x) else if Zah acc (oneV x).1 = true then ([], 8) else ZH (acc ++ [oneV x]) r
def Zn (s : ByteArray) : List Pr × Int :=
 if s.size = 0 then ([], 0) else if 6 < (Zu 44 s.data.toList).length then ([], 9) else ZH [] (Zu 44 s.data.toList)
def shown (p : Pr) : List UInt8 := p.1.data.toList ++ 61 :: p.2.data.toList
def showP (l : List Pr) : List UInt8 := Lib.join (l.map shown) [44]
theorem ZfO : ∀ (ps : List (List UInt8)) (acc : List Pr), (ZH acc ps).1.length ≤ acc.length + ps.length
 | [], acc => by simp [ZH]
 | x :: r, acc => by
   rw [ZH]
   split
   ·simp
   ·split
    ·simp
    ·have := ZfO r (acc ++ [oneV x])
     simp at this ⊢
     omega
theorem Zb7 (s : ByteArray) : (Zn s).1.length ≤ 6 := by
 unfold Zn
 split
 ·simp
 ·split
  ·simp
  ·have := ZfO (Zu 44 s.data.toList) []
   simp at this
   omega
theorem Zkd (x : List UInt8) : oneE x = 0 ∨ oneE x = 3 ∨ oneE x = 5 := by
 unfold oneE
 split
 ·split <;> simp
 ·simp
theorem Zli {x : List UInt8} (h : oneE x = 0) : shown (oneV x) = x := by
 unfold oneE at h
 split at h
 ·rename_i k v e
  have hv : oneV x = (ba k, ba v) := by unfold oneV; rw [e]
  have := Ze6 61 x
  rw [e] at this
  rw [hv]
  simp only [shown, Zab]
  rw [← this]
  simp [Lib.join, List.intercalate, List.intersperse]
 ·cases h
theorem Ze7 : ∀ (ps : List (List UInt8)) (acc l : List Pr), ZH acc ps = (l, 0) → l.map shown = acc.map shown ++ ps
 | [], acc, l, h => by
   simp [ZH] at h
   rw [h]; simp
 | x :: r, acc, l, h => by
   rw [ZH] at h
   split at h
   ·rename_i hne
    simp only [Prod.mk.injEq] at h
    exact absurd h.2 hne
   ·rename_i h0
    have h0' : oneE x = 0 := by simpa using h0
    split at h
    ·simp at h
    ·rw [Ze7 r _ l h]
     simp [Zli h0']
theorem Zke {s : ByteArray} {l : List Pr} (h : Zn s = (l, 0)) : showP l = s.data.toList := by
 unfold Zn at h
 split at h
 ·rename_i h0
  simp at h
  subst h
  have : s.data.toList = [] := by
   apply List.length_eq_zero_iff.1
   simpa using h0
  rw [this]; rfl
 ·split at h
  ·simp at h
  ·have := Ze7 _ _ _ h
   simp at this
   unfold showP
   rw [this, Ze6]
def Once (l : List Pr) : Prop := l.Pairwise fun p q => p.1 ≠ q.1
theorem ZhG {l : List Pr} {k : ByteArray} (h : Zah l k = false) : ∀ p ∈ l, p.1 ≠ k := by
 intro p hp e
 have : Zah l k = true := by
  unfold Zah
  rw [List.any_eq_true]
  exact ⟨p, hp, by simp [e]⟩
 rw [h] at this; cases this
theorem Ze8 : ∀ (ps : List (List UInt8)) (acc : List Pr), Once acc → Once (ZH acc ps).1
 | [], acc, h => h
 | x :: r, acc, h => by
   rw [ZH]
   split
   ·exact List.Pairwise.nil
   ·split
    ·exact List.Pairwise.nil
    ·rename_i hk
     refine Ze8 r _ ?_
     unfold Once
     rw [List.pairwise_append]
     refine ⟨h, List.pairwise_singleton _ _, fun p hp q hq => ?_⟩
     rw [List.mem_singleton] at hq
     subst hq
     exact ZhG (by simpa using hk) p hp
theorem ZiU (s : ByteArray) : Once (Zn s).1 := by
 unfold Zn
 split
 ·exact List.Pairwise.nil
 ·split
  ·exact List.Pairwise.nil
  ·exact Ze8 _ _ List.Pairwise.nil
def Z3 (s : ByteArray) : Int := (Zn s).2
open Go.Shelf
open Go.Sort hiding Below
def Tryz.lays144_ren : Go.Shelf.Ren := ⟨fun | 144 => 117 | 143 => 133 | 219 => 140 | 217 => 143 | 225 => 144 | 224 => 145 | 267 => 146 | 266 => 149 | 314 => 150 | n => n, fun | 9 => 9 | 4 => 4 | 3 => 3 | 5 => 5 | 46 => 226 | 146 => 236 | 51 => 235 | n => n, fun | 1 => 0 | n => n⟩
theorem Tryz.lays144 : Go.Proofs.Lays.n144 Tryz.prog Tryz.lays144_ren := {
 mixed := by kernel_rfl
 f143 := Tryz.func133.trans (congrArg some (by kernel_rfl))
 f144 := Tryz.func117.trans (congrArg some (by kernel_rfl))
 f217 := Tryz.func143.trans (congrArg some (by kernel_rfl))
 f219 := Tryz.func140.trans (congrArg some (by kernel_rfl))
 f224 := Tryz.func145.trans (congrArg some (by kernel_rfl))
 f225 := Tryz.func144.trans (congrArg some (by kernel_rfl))
 f266 := Tryz.func149.trans (congrArg some (by kernel_rfl))
 f267 := Tryz.func146.trans (congrArg some (by kernel_rfl))
 f314 := Tryz.func150.trans (congrArg some (by kernel_rfl))
 t3 := Tryz.underlying3
 a3 := Tryz.isAgg3
 z3 := Tryz.sizeOf3
 v3 := Tryz.zeroValue3
 t4 := Tryz.underlying4
 a4 := Tryz.isAgg4
 z4 := Tryz.sizeOf4
 v4 := Tryz.zeroValue4
 t5 := Tryz.underlying5
 a5 := Tryz.isAgg5
 z5 := Tryz.sizeOf5
 v5 := Tryz.zeroValue5
 t9 := Tryz.underlying9
 a9 := Tryz.isAgg9
 z9 := Tryz.sizeOf9
 v9 := Tryz.zeroValue9
 t46 := Tryz.underlying226
 a46 := Tryz.isAgg226
 z46 := Tryz.sizeOf226
 v46 := Tryz.zeroValue226
 t51 := Tryz.underlying235
 a51 := Tryz.isAgg235
 z51 := Tryz.sizeOf235
 v51 := Tryz.zeroValue235
 t146 := Tryz.underlying236
 a146 := Tryz.isAgg236
 z146 := Tryz.sizeOf236
 v146 := Tryz.zeroValue236
 g1 := by kernel_rfl }
def Tryz.lays145_ren : Go.Shelf.Ren := ⟨fun | 145 => 116 | 220 => 134 | 219 => 140 | 217 => 143 | 225 => 144 | 224 => 145 | 267 => 146 | 266 => 149 | 314 => 150 | n => n, fun | 9 => 9 | 4 => 4 | 59 => 206 | 3 => 3 | 5 => 5 | 46 => 226 | 146 => 236 | 51 => 235 | n => n, fun | 1 => 0 | n => n⟩
theorem Tryz.lays145 : Go.Proofs.Lays.n145 Tryz.prog Tryz.lays145_ren := {
 mixed := by kernel_rfl
 f145 := Tryz.func116.trans (congrArg some (by kernel_rfl))
 f217 := Tryz.func143.trans (congrArg some (by kernel_rfl))
 f219 := Tryz.func140.trans (congrArg some (by kernel_rfl))
 f220 := Tryz.func134.trans (congrArg some (by kernel_rfl))
 f224 := Tryz.func145.trans (congrArg some (by kernel_rfl))
 f225 := Tryz.func144.trans (congrArg some (by kernel_rfl))
 f266 := Tryz.func149.trans (congrArg some (by kernel_rfl))
 f267 := Tryz.func146.trans (congrArg some (by kernel_rfl))
 f314 := Tryz.func150.trans (congrArg some (by kernel_rfl))
 t3 := Tryz.underlying3
 a3 := Tryz.isAgg3
 z3 := Tryz.sizeOf3
 v3 := Tryz.zeroValue3
 t4 := Tryz.underlying4
 a4 := Tryz.isAgg4
 z4 := Tryz.sizeOf4
 v4 := Tryz.zeroValue4
 t5 := Tryz.underlying5
 a5 := Tryz.isAgg5
 z5 := Tryz.sizeOf5
 v5 := Tryz.zeroValue5
 t9 := Tryz.underlying9
 a9 := Tryz.isAgg9
 z9 := Tryz.sizeOf9
 v9 := Tryz.zeroValue9
 t46 := Tryz.underlying226
 a46 := Tryz.isAgg226
 z46 := Tryz.sizeOf226
 v46 := Tryz.zeroValue226
 t51 := Tryz.underlying235
 a51 := Tryz.isAgg235
 z51 := Tryz.sizeOf235
 v51 := Tryz.zeroValue235
 t59 := Tryz.underlying206
 a59 := Tryz.isAgg206
 z59 := Tryz.sizeOf206
 v59 := Tryz.zeroValue206
 t146 := Tryz.underlying236
 a146 := Tryz.isAgg236
 z146 := Tryz.sizeOf236
 v146 := Tryz.zeroValue236
 g1 := by kernel_rfl }
def Tryz.lays146_ren : Go.Shelf.Ren := ⟨fun | 146 => 92 | 221 => 115 | 268 => 131 | 138 => 132 | 143 => 133 | 195 => 137 | 197 => 138 | 218 => 139 | 219 => 140 | 260 => 142 | 217 => 143 | 225 => 144 | 224 => 145 | 267 => 146 | 266 => 149 | 314 => 150 | n => n, fun | 9 => 9 | 31 => 151 | 3 => 3 | 4 => 4 | 0 => 0 | 105 => 223 | 21 => 21 | 5 => 5 | 46 => 226 | 119 => 231 | 139 => 234 | 138 => 233 | 146 => 236 | 51 => 235 | n => n, fun | 1 => 0 | 3 => 1 | 4 => 2 | n => n⟩
theorem Tryz.lays146 : Go.Proofs.Lays.n146 Tryz.prog Tryz.lays146_ren := {
 mixed := by kernel_rfl
 f138 := Tryz.func132.trans (congrArg some (by kernel_rfl))
 f143 := Tryz.func133.trans (congrArg some (by kernel_rfl))
 f146 := Tryz.func92.trans (congrArg some (by kernel_rfl))
 f195 := Tryz.func137.trans (congrArg some (by kernel_rfl))
 f197 := Tryz.func138.trans (congrArg some (by kernel_rfl))
 f217 := Tryz.func143.trans (congrArg some (by kernel_rfl))
 f218 := Tryz.func139.trans (congrArg some (by kernel_rfl))
 f219 := Tryz.func140.trans (congrArg some (by kernel_rfl))
 f221 := Tryz.func115.trans (congrArg some (by kernel_rfl))
 f224 := Tryz.func145.trans (congrArg some (by kernel_rfl))
 f225 := Tryz.func144.trans (congrArg some (by kernel_rfl))
 f260 := Tryz.func142.trans (congrArg some (by kernel_rfl))
 f266 := Tryz.func149.trans (congrArg some (by kernel_rfl))
 f267 := Tryz.func146.trans (congrArg some (by kernel_rfl))
 f268 := Tryz.func131.trans (congrArg some (by kernel_rfl))
 f314 := Tryz.func150.trans (congrArg some (by kernel_rfl))
 t0 := Tryz.underlying0
 a0 := Tryz.isAgg0
 z0 := Tryz.sizeOf0
 v0 := Tryz.zeroValue0
 t3 := Tryz.underlying3
 a3 := Tryz.isAgg3
 z3 := Tryz.sizeOf3
 v3 := Tryz.zeroValue3
 t4 := Tryz.underlying4
 a4 := Tryz.isAgg4
 z4 := Tryz.sizeOf4
 v4 := Tryz.zeroValue4
 t5 := Tryz.underlying5
 a5 := Tryz.isAgg5
 z5 := Tryz.sizeOf5
 v5 := Tryz.zeroValue5
 t9 := Tryz.underlying9
 a9 := Tryz.isAgg9
 z9 := Tryz.sizeOf9
 v9 := Tryz.zeroValue9
 t21 := Tryz.underlying21
 a21 := Tryz.isAgg21
 z21 := Tryz.sizeOf21
 v21 := Tryz.zeroValue21
 t31 := Tryz.underlying151
 a31 := Tryz.isAgg151
 z31 := Tryz.sizeOf151
 v31 := Tryz.zeroValue151
 t46 := Tryz.underlying226
 a46 := Tryz.isAgg226
 z46 := Tryz.sizeOf226
 v46 := Tryz.zeroValue226
 t51 := Tryz.underlying235
 a51 := Tryz.isAgg235
 z51 := Tryz.sizeOf235
 v51 := Tryz.zeroValue235
 t105 := Tryz.underlying223
 a105 := Tryz.isAgg223
 z105 := Tryz.sizeOf223
 v105 := Tryz.zeroValue223
 t119 := Tryz.underlying231
 a119 := Tryz.isAgg231
 z119 := Tryz.sizeOf231
 t138 := Tryz.underlying233
 a138 := Tryz.isAgg233
 z138 := Tryz.sizeOf233
 v138 := Tryz.zeroValue233
 t139 := Tryz.underlying234
 a139 := Tryz.isAgg234
 z139 := Tryz.sizeOf234
 v139 := Tryz.zeroValue234
 t146 := Tryz.underlying236
 a146 := Tryz.isAgg236
 z146 := Tryz.sizeOf236
 v146 := Tryz.zeroValue236
 g1 := by kernel_rfl
 g3 := by kernel_rfl
 g4 := by kernel_rfl }
def Tryz.hasPair_ren : Go.Shelf.Ren := ⟨fun | 8 => 94 | 6 => 119 | n => n, fun | 22 => 83 | 23 => 89 | 25 => 181 | 4 => 4 | 3 => 3 | 0 => 0 | n => n, fun | n => n⟩
theorem Tryz.hasPair : Go.Proofs.SlLaysH0.n8 Tryz.prog Tryz.hasPair_ren := {
 mixed := by kernel_rfl
 f6 := ⟨Tryz.f119.name, by decide, Tryz.func119.trans (congrArg some (by kernel_rfl))⟩
 f8 := ⟨Tryz.f94.name, by decide, Tryz.func94.trans (congrArg some (by kernel_rfl))⟩
 t0 := Tryz.underlying0
 a0 := Tryz.isAgg0
 z0 := Tryz.sizeOf0
 v0 := Tryz.zeroValue0
 t3 := Tryz.underlying3
 a3 := Tryz.isAgg3
 z3 := Tryz.sizeOf3
 v3 := Tryz.zeroValue3
 t4 := Tryz.underlying4
 a4 := Tryz.isAgg4
 z4 := Tryz.sizeOf4
 v4 := Tryz.zeroValue4
 t22 := Tryz.underlying83
 a22 := Tryz.isAgg83
 z22 := Tryz.sizeOf83
 v22 := Tryz.zeroValue83
 t25 := Tryz.underlying181
 a25 := Tryz.isAgg181
 z25 := Tryz.sizeOf181
 v25 := Tryz.zeroValue181 }
def Ready (w : World) : Prop := ∃ m, w.cell? ⟨0, 0, none⟩ = some (.int .i64 m)
theorem Ready.below {w w' : World} (h : Ready w) (hb : Below w.heap.size w w') : Ready w' := by
 obtain ⟨m, hm⟩ := h
 exact ⟨m, by rw [hb.cell (World.block_lt_of_cell? w _ hm)]; exact hm⟩
theorem ZcK (c : UInt8) (s : ByteArray) (w : World) (hr : Ready w) (hs : s.size < 4294967281) :
 Calls Tryz.prog 116 #[.string s, .string ⟨#[c]⟩] w fun e w' => e = .returned (.tuple #[.string (ba (Lib.cut s.data.toList [c]).1), .string (ba (Lib.cut s.data.toList [c]).2.1), .bool (Lib.cut s.data.toList [c]).2.2]) ∧ Below w.heap.size w w' := by
 obtain ⟨m, hm⟩ := hr
 refine (Any.strings_Cut Tryz.lays145 s ⟨#[c]⟩ m w hs hm).mono ?_
 rintro e w' ⟨he, n, rfl⟩
 exact ⟨he, ⟨rfl, rfl, rfl, Nat.le_refl _, fun _ _ => rfl⟩⟩
theorem Zbz (c : UInt8) (s : ByteArray) (w : World) (hr : Ready w) (hs : s.size < 4294967281) :
 Calls Tryz.prog 117 #[.string s, .string ⟨#[c]⟩] w fun e w' => e = .returned (.bool (Lib.contains s.data.toList [c])) ∧ w = w' := by
 obtain ⟨m, hm⟩ := hr
 exact (Any.strings_Contains Tryz.lays144 s ⟨#[c]⟩ m w hs hm).mono fun _ _ ⟨he, hw⟩ => ⟨he, hw.symm⟩
theorem Zlj (c : UInt8) (s : ByteArray) (w : World) (hr : Ready w) (hs : s.size < 4294967281) :
 Calls Tryz.prog 92 #[.string s, .string ⟨#[c]⟩] w fun e w' => e = .returned (.slice (some ⟨w.heap.size, 0, none⟩) (Zu c s.data.toList).length (Zu c s.data.toList).length) ∧
  w.alloc (.cells ((Zu c s.data.toList).map fun p => Value.string (ba p)).toArray 9) = w' := by
 obtain ⟨m, hm⟩ := hr
 refine (Any.strings_Split Tryz.lays146 (by kernel_rfl) s ⟨#[c]⟩ m w hs hm (Nat.le_refl 1)).mono ?_
 rintro e w' ⟨he, rfl⟩
 have e1 : Lib.countB s ⟨#[c]⟩ + 1 = (Zu c s.data.toList).length := (Zhm c s.data.toList).symm
 rw [e1] at he
 refine ⟨he, ?_⟩
 rw [Zhl, List.map_map]
 rfl
def encP (p : Pr) : List Value := [.string p.1, .string p.2]
theorem ZdB (p : Pr) : (encP p).length = 2 := rfl
theorem ZmM (p : Pr) : ∀ v ∈ encP p, v.oneCell' = true := by
 intro v hv
 simp [encP] at hv
 rcases hv with rfl | rfl <;> rfl
end Go.Proofs.YtdbjihkgafhakaaGreatDoor
