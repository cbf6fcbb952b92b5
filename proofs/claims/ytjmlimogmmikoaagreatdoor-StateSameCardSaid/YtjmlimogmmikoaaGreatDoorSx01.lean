/-
  Small laws on memory, over any program: an append of one element, bytes to a string, what a call leaves below.
  How a law's walk becomes its row: a call that hands back true and leaves all that lay there as it was.
  Names: the runes of a text, their kinds; plain.
  text.Name and what it calls: a text is a name just if 'nameB' says so.
  text.Name: a text is a name just if 'nameB' says so; the reference's own.
  Platforms, plain: pieces of a text, the pair of a piece, the pairs of a platform, how they are shown; what strings.Cut, Contains and Split come to at one byte.
  Platforms by rising keys, plain.
-/
import Derived.Test.YtjmlimogmmikoaaGreatDoorRows
import Derived.WalkKit
import Derived.WalkSpells
import Derived.WalkLawsBesides
import Derived.Lib.Hide
import Derived.PlainAid
import Derived.BigQuiet
import Derived.Deep.DeepMust
import Derived.Deep.DeepFit
import Derived.Lib.QuietBelow
import Derived.Lib.OthersKept
import Derived.ProofKit
import Derived.OpenShut
import Derived.SizedLaws
import Derived.Lib.SmallJoins
import Derived.ShutString
import Derived.Lib.Bytealg
import Derived.Lib.Split
import Derived.Lib.Join
import Derived.Lib.IndexBytes
namespace Go.Proofs.YtjmlimogmmikoaaGreatDoor
open Go.RowKit
def TrueBelow (w : World) (e : Ending) (w' : World) : Prop := e = .returned (.bool true) ∧ Below w.heap.size w w'
theorem ret_int {k : IntKind} {a b : Int} (h : a = b) : Ending.returned (.int k a) = .returned (.int k b) := by rw [h]
theorem ret_bool {a b : Bool} (h : a = b) : Ending.returned (.bool a) = .returned (.bool b) := by rw [h]
theorem cell_alloc_at {w : World} {cs : Array Value} {t : TypeId} {i : Nat} {v : Value} (h : cs[i]? = some v) : (w.alloc (.cells cs t)).cell? ⟨w.heap.size, i, none⟩ = some v := by
  simp only [World.cell?, World.alloc, Array.getElem?_push_size]
  exact h
theorem ba_ext {a b : ByteArray} (h : a.data.toList = b.data.toList) : a = b := by
  obtain ⟨a⟩ := a
  obtain ⟨b⟩ := b
  simp at h
  rw [h]
theorem ba_ne {a b : ByteArray} (h : a ≠ b) : (a == b) = false := by
  rw [beq_toListBytes, ByteArray.toList_eq, ByteArray.toList_eq]
  exact beq_eq_false_iff_ne.2 fun e => h (ba_ext e)
theorem ba_list_ne {a b : ByteArray} (h : a ≠ b) : (a.toList == b.toList) = false := by rw [← beq_toListBytes]; exact ba_ne h
def bv (b : UInt8) : Value := .int .u8 (b.toNat : Int)
section
variable {P : Program}
theorem wpList_load_agg {w : World} {ops : Array Oper} {rest : List Oper} {o : Oper} {a : Act} {Q : Exit → Act → World → Prop} {g : Nat} {cs : Array Value} {t : TypeId} {fr : Nat × Nat} {d : TypeDesc} (ty : TypeId) (hg : w.heap[g]? = some (.cells cs t fr))
    (hu : P.underlying ty = some d) (hd : (match d with | .struct _ | .array _ _ => true | _ => false) = true) (hi : (P.info? ty).map (·.size) = some cs.size)
    (hw : Region.wanted o (yielded ops a.tmps) = true) (x : Operand) (ho : o.op = .load ty x) (hx : a.eval x = .pointer (some ⟨g, 0, none⟩))
    (h : wpList P ops Q rest (a.put o.dst (.agg cs)) w) : wpList P ops Q (o :: rest) a w := by
  unfold wpList
  rw [if_pos hw]
  exact .inl (wp_load_row ty x ho g hx t cs fr d hg hu hd hi h)
end
theorem cell_below {w w' : World} (hb : Below w.heap.size w w') {a : Addr} {v : Value} (h : w.cell? a = some v) : w'.cell? a = some v := by
  rw [hb.cell (World.block_lt_of_cell? w a h)]; exact h
theorem grown_of_below {w w' : World} (hb : Below w.heap.size w w') : w.grownBy w' none := ⟨hb.os, hb.tape, hb.output, hb.size, fun k hk _ => hb.block k hk⟩
theorem box_below {w : World} {o : Obj} : Below w.heap.size w (w.alloc o) := (Below.refl _ _).alloc (Nat.le_refl _) _
theorem box_below2 {w w1 : World} {o : Obj} (h : Below (w.alloc o).heap.size (w.alloc o) w1) : Below w.heap.size w w1 := box_below.trans (h.mono (by simp))
theorem regrown_of {P : Program} {f : FuncId} {args : Array Value} {w : World} {p : Regrown} {v : Value}
    (h : ∀ W, Calls P f args W fun e w' => e = .returned v ∧ Below W.heap.size W w') : Calls P f args (Go.Sort.grow (redrawn w p.d) p.os) fun e w'' => e = .returned v ∧ ∃ p : Regrown, w'' = Go.Sort.grow (redrawn w p.d) p.os :=
  Calls.regrown_of (h _)
theorem below_of_regrown {B : Nat} {w0 w : World} {d : Nat} {os : Array Obj} (h : Below B w0 w) (hB : B ≤ w.heap.size) : Below B w0 (Go.Sort.grow (redrawn w d) os) :=
  h.trans ((below_regrown w d os).mono hB)
end Go.Proofs.YtjmlimogmmikoaaGreatDoor
namespace Go.Proofs.YtjmlimogmmikoaaGreatDoor
open Go.ChangeShapes Go.WideShapes Go.ChangeAt Go.RowKit
theorem own : ownKnob Tryz.prog.godebug = none := by kernel_rfl
theorem laidOut : laidOutB Tryz.prog = true := by kernel_rfl
section
variable {H : Type} {enc : TypeId × Value → H} {P : Program}
theorem trodAll_below (hl : laidOutB P = true) {W W' : World} (hb : Below W.heap.size W W') : ∀ (ts : List TypeId) (vs : List Value) (ds : List (DataW H)) (ps : List MemPlace),
    (∀ t, t ∈ ts → P.readableRec t = true ∧ t < P.types.size) → DataW.TrodAll enc P W 0 (fun _ => true) true ts vs ds ps → (∀ x ∈ ps, x.block < W.heap.size) →
    DataW.TrodAll enc P W' 0 (fun b => decide (b < W.heap.size)) true ts vs ds ps
  | [], vs, ds, ps, _, h, _ => by
    cases vs <;> cases ds <;> simp [DataW.TrodAll] at h ⊢
    exact h
  | t :: ts, vs, ds, ps, hr, h, hlt => by
    obtain ⟨v, vs', d, ds', p, q, rfl, rfl, rfl, h0, h1⟩ := trodAll_cons h
    obtain ⟨hr0, hr1⟩ := hr t (by simp)
    exact trodAll_cons_mk (hb.trod hl hr0 hr1 h0 (fun x hx => hlt x (List.mem_append_left _ hx)))
      (trodAll_below hl hb ts vs' ds' q (fun t ht => hr t (List.mem_cons_of_mem _ ht)) h1 (fun x hx => hlt x (List.mem_append_right _ hx)))
theorem trodAll_len : ∀ {w : World} {base : Nat} {spare : Nat → Bool} {held : Bool} (ts : List TypeId) (vs : List Value) (ds : List (DataW H)) (ps : List MemPlace), DataW.TrodAll enc P w base spare held ts vs ds ps → ds.length = ts.length
  | _, _, _, _, [], vs, ds, ps, h => by cases vs <;> cases ds <;> simp_all [DataW.TrodAll]
  | _, _, _, _, t :: ts, vs, ds, ps, h => by
    obtain ⟨v, vs', d, ds', p, q, rfl, rfl, rfl, h0, h1⟩ := trodAll_cons h
    have := trodAll_len ts vs' ds' q h1
    simp [this]
theorem law_post {f : Func} {s : ChangeSpec} {W W' : World} {args : Array Value} {ds gs : List (DataW H)} {before : List MemPlace} {tb : TypeId}
    (hl : laidOutB P = true) (hr : ∀ t, t ∈ f.params.toList → P.readableRec t = true ∧ t < P.types.size) (hv : s.vars = [])
    (hs : ∀ ds : List (DataW H), ds.length = f.params.size → s.fn H ds = { results := [.lit (.bool true)], args := ds }) (hrt : f.resultTypes = #[tb]) (hb4 : P.underlying tb = some .bool)
    (hW : DataW.Whole enc P f.params.toList s.vars false W args.toList ds gs before) (hb : Below W.heap.size W W') : s.post enc P f false true false false W args (.bool true) W' := by
  have hlt := hW.lt
  have hW' := hW
  obtain ⟨p, q, hA, hV, rfl, _, _⟩ := hW
  rw [hv] at hV
  have hg : gs = [] ∧ q = [] := by
    cases gs with
    | nil => exact ⟨rfl, by simpa [DataW.TrodVars] using hV⟩
    | cons g r => simp [DataW.TrodVars] at hV
  obtain ⟨rfl, rfl⟩ := hg
  have e1 := hs ds (by have := trodAll_len _ _ _ _ hA; simpa using this)
  simp only [List.append_nil] at hlt hW'
  refine ⟨ds, [], p, [], p, [], hW', ?_, ?_, ?_, ?_, fun h => by cases h⟩
  · rw [List.append_nil, e1, hrt]
    exact trodAll_mk1 (shut_bool hb4 _)
  · rw [List.append_nil, e1]
    exact trodAll_below hl hb _ _ _ _ hr hA hlt
  · rw [List.append_nil, e1, hv]
    simp [DataW.TrodVars]
  · exact hb.frame _
theorem reach_le {l : List Nat} (h : l.all (· ≤ reachBytes) = true) : ∀ x ∈ l, x ≤ 140737488351232 := by
  intro x hx
  have h1 := List.all_eq_true.1 h x hx
  exact of_decide_eq_true h1
end
end Go.Proofs.YtjmlimogmmikoaaGreatDoor
namespace Go.Proofs.YtjmlimogmmikoaaGreatDoor
open Go.RowKit
def runesF (s : ByteArray) : Nat → Nat → List Nat
  | 0, _ => []
  | f + 1, pos => if pos < s.size then (Utf8.decode s pos).1 :: runesF s f (pos + (Utf8.decode s pos).2) else []
def runes (s : ByteArray) : List Nat := runesF s s.size 0
theorem runesF_end (s : ByteArray) (f pos : Nat) (h : ¬ pos < s.size) : runesF s f pos = [] := by cases f <;> simp [runesF, h]
theorem runesF_more (s : ByteArray) (f pos : Nat) (h : pos < s.size) (hf : s.size ≤ pos + f) : ∃ g, f = g + 1 ∧ runesF s f pos = (Utf8.decode s pos).1 :: runesF s g (pos + (Utf8.decode s pos).2) := by
  obtain ⟨g, rfl⟩ : ∃ g, f = g + 1 := ⟨f - 1, by omega⟩
  exact ⟨g, rfl, by simp [runesF, h]⟩
def DecOk (d : Nat × Nat) : Prop := d.1 < 1114112 ∧ 1 ≤ d.2 ∧ (d.1 < 1104 → d.2 ≤ 2)
theorem decOk_ite {c : Prop} [Decidable c] {a b : Nat × Nat} (ha : c → DecOk a) (hb : DecOk b) : DecOk (if c then a else b) := by
  by_cases h : c
  · rw [if_pos h]; exact ha h
  · rw [if_neg h]; exact hb
theorem decOk_err : DecOk (Utf8.runeError, 1) := ⟨by decide, by decide, by decide⟩
theorem valid_lt {c : Nat} (h : Utf8.valid c = true) : c < 1114112 := by
  simp [Utf8.valid] at h
  omega
theorem decode_ok (s : ByteArray) (pos : Nat) : DecOk (Utf8.decode s pos) := by
  unfold Utf8.decode
  refine decOk_ite (fun h => ?_) (decOk_ite (fun _ => decOk_ite (fun _ => ?_) decOk_err) (decOk_ite (fun _ => decOk_ite (fun h => ?_) decOk_err) (decOk_ite (fun _ => decOk_ite (fun h => ?_) decOk_err) decOk_err)))
  · refine ⟨?_, by simp only []; omega, fun _ => by simp only []; omega⟩
    show (s.get! (pos + 0)).toNat < 1114112
    have := UInt8.toNat_lt (s.get! (pos + 0))
    omega
  · refine ⟨?_, by simp only []; omega, fun _ => by simp only []; omega⟩
    show (s.get! (pos + 0)).toNat % 32 * 64 + (s.get! (pos + 1)).toNat % 64 < 1114112
    omega
  · simp only [Bool.and_eq_true, decide_eq_true_eq] at h
    exact ⟨valid_lt h.2, by simp only []; omega, fun h2 => absurd h.1 (by simp only [] at h2; omega)⟩
  · simp only [Bool.and_eq_true, decide_eq_true_eq] at h
    exact ⟨valid_lt h.2, by simp only []; omega, fun h2 => absurd h.1 (by simp only [] at h2; omega)⟩
theorem decode_small (s : ByteArray) (pos : Nat) : (Utf8.decode s pos).1 < 1114112 ∧ 1 ≤ (Utf8.decode s pos).2 ∧ ((Utf8.decode s pos).1 < 1104 → (Utf8.decode s pos).2 ≤ 2) := decode_ok s pos
def btw (a r b : Nat) : Bool := decide (a ≤ r) && decide (r ≤ b)
def smallN (r : Nat) : Bool := btw 97 r 122 || (btw 224 r 254 && decide (r ≠ 247)) || (btw 945 r 969 && decide (r ≠ 962)) || btw 1072 r 1103
def greatN (r : Nat) : Bool := btw 65 r 90 || (btw 192 r 222 && decide (r ≠ 215)) || (btw 913 r 937 && decide (r ≠ 930)) || btw 1040 r 1071
theorem greatN_small (r : Nat) : greatN r = (decide (65 ≤ r) && smallN (r + 32)) := by
  rw [Bool.eq_iff_iff]
  simp [greatN, smallN, btw]
  omega
def kindN (r : Nat) : Nat := if smallN r then 1 else if 48 ≤ r ∧ r ≤ 57 then 2 else if r = 45 ∨ r = 46 then 3 else if greatN r then 4 else 0
def okR (r : Nat) : Bool := kindN r != 0 && kindN r != 4
def nameB (s : ByteArray) : Bool := (runes s).all okR && decide (1 ≤ (runes s).length ∧ (runes s).length ≤ 16)
end Go.Proofs.YtjmlimogmmikoaaGreatDoor
namespace Go.Proofs.YtjmlimogmmikoaaGreatDoor
open Go.RowKit
def hasN (a b c r : Nat) : Bool := decide (a ≤ r) && (decide (r ≤ b) && decide (r ≠ c))
set_option maxHeartbeats 400000 in
theorem has_any (a b c r : Nat) (w : World) :
    Calls Tryz.prog 236 #[.agg #[.int .i32 a, .int .i32 b, .int .i32 c], .int .i32 r] w fun e w' => e = .returned (.bool (hasN a b c r)) ∧ Below w.heap.size w w' := by
  by_cases h1 : a ≤ r
  · by_cases h2 : r ≤ b
    · by_cases h3 : r = c
      · have H := Lib.hid (show hasN a b c r = false by simp [hasN, h3])
        have h4 : ((r : Int) != (c : Int)) = false := by simp [h3]
        clear h3
        go_enter Tryz.func236, Tryz.ntmps236
        go_wp2
        go_ret
        exact ⟨ret_bool H.out.symm, (Below.refl _ _).alloc (Nat.le_refl _) _⟩
      · have H := Lib.hid (show hasN a b c r = true by simp [hasN, h1, h2, h3])
        have h4 : ((r : Int) != (c : Int)) = true := by rw [bne_iff_ne]; omega
        clear h3
        go_enter Tryz.func236, Tryz.ntmps236
        go_wp2
        go_ret
        exact ⟨ret_bool H.out.symm, (Below.refl _ _).alloc (Nat.le_refl _) _⟩
    · have H := Lib.hid (show hasN a b c r = false by simp [hasN, h2])
      go_enter Tryz.func236, Tryz.ntmps236
      go_wp2
      go_ret
      exact ⟨ret_bool H.out.symm, (Below.refl _ _).alloc (Nat.le_refl _) _⟩
  · have H := Lib.hid (show hasN a b c r = false by simp [hasN, h1])
    go_enter Tryz.func236, Tryz.ntmps236
    go_wp2
    go_ret
    exact ⟨ret_bool H.out.symm, (Below.refl _ _).alloc (Nat.le_refl _) _⟩
def aN (k : Nat) : Nat := [97, 224, 945, 1072].getD k 0
def bN (k : Nat) : Nat := [122, 254, 969, 1103].getD k 0
def cN (k : Nat) : Nat := [0, 247, 962, 0].getD k 0
def rowCells : Array Value := #[.int .i32 97, .int .i32 122, .int .i32 0, .int .i32 224, .int .i32 254, .int .i32 247, .int .i32 945, .int .i32 969, .int .i32 962, .int .i32 1072, .int .i32 1103, .int .i32 0]
theorem rowCells_at : ∀ k : Fin 4, rowCells[k.val * 3]? = some (.int .i32 (aN k.val)) ∧ rowCells[k.val * 3 + 1]? = some (.int .i32 (bN k.val)) ∧ rowCells[k.val * 3 + 2]? = some (.int .i32 (cN k.val)) := by
  intro k
  match k with
  | ⟨0, _⟩ => exact ⟨rfl, rfl, rfl⟩
  | ⟨1, _⟩ => exact ⟨rfl, rfl, rfl⟩
  | ⟨2, _⟩ => exact ⟨rfl, rfl, rfl⟩
  | ⟨3, _⟩ => exact ⟨rfl, rfl, rfl⟩
theorem smallN_has (r : Nat) : smallN r = (hasN (aN 0) (bN 0) (cN 0) r || (hasN (aN 1) (bN 1) (cN 1) r || (hasN (aN 2) (bN 2) (cN 2) r || hasN (aN 3) (bN 3) (cN 3) r))) := by
  rw [Bool.eq_iff_iff]
  simp [smallN, btw, hasN, aN, bN, cN]
  omega
set_option maxHeartbeats 400000 in
theorem rows_any (w : World) :
    Calls Tryz.prog 235 #[] w fun e w' => e = .returned (.slice (some ⟨w.heap.size, 0, none⟩) 4 4) ∧ w.alloc (.cells rowCells 350) = w' := by
  go_enter Tryz.func235, Tryz.ntmps235
  go_wp2
  go_ret
  exact ⟨rfl, rfl⟩
theorem small_hit {r k : Nat} (hk : k < 4) (h : hasN (aN k) (bN k) (cN k) r = true) : smallN r = true := by
  rw [smallN_has]
  match k, hk with
  | 0, _ => simp [h]
  | 1, _ => simp [h]
  | 2, _ => simp [h]
  | 3, _ => simp [h]
theorem small_none {r : Nat} (h : ∀ k, k < 4 → hasN (aN k) (bN k) (cN k) r = false) : smallN r = false := by
  rw [smallN_has, h 0 (by omega), h 1 (by omega), h 2 (by omega), h 3 (by omega)]
  rfl
set_option maxHeartbeats 400000 in
theorem letter_any (r : Nat) (w : World) :
    Calls Tryz.prog 214 #[.int .i32 r] w fun e w' => e = .returned (.bool (smallN r)) ∧ Below w.heap.size w w' := by
  go_enter Tryz.func214, Tryz.ntmps214
  go_wp2_with fail
  refine (rows_any _).mono ?_
  rintro e w1 ⟨rfl, rfl⟩
  go_wp2
  go_loopw [7] (fun i wr => ∃ k : Nat, k ≤ 4 ∧ i = .int .i64 k ∧ Below (w.heap.size + 1) (w.alloc (.cells rowCells 350)) wr ∧ ∀ j, j < k → hasN (aN j) (bN j) (cN j) r = false)
    (fun i _ => 4 - (intOf i).toNat)
  case atStart => exact ⟨0, by omega, rfl, Below.refl _ _, fun j hj => by omega⟩
  case round =>
    obtain ⟨k, hk, rfl, hb, hno⟩ := hrel
    have HN := Lib.hid hno; clear hno
    by_cases hlt : k < 4
    · obtain ⟨c0, c1, c2⟩ := rowCells_at ⟨k, hlt⟩
      have d0 : wr.cell? ⟨w.heap.size, k * 3, none⟩ = some (.int .i32 (aN k)) := by rw [hb.cell (by simp)]; exact cell_alloc_at c0
      have d1 : wr.cell? ⟨w.heap.size, k * 3 + 1, none⟩ = some (.int .i32 (bN k)) := by rw [hb.cell (by simp)]; exact cell_alloc_at c1
      have d2 : wr.cell? ⟨w.heap.size, k * 3 + 2, none⟩ = some (.int .i32 (cN k)) := by rw [hb.cell (by simp)]; exact cell_alloc_at c2
      clear c0 c1 c2
      rcases Bool.eq_false_or_eq_true (hasN (aN k) (bN k) (cN k) r) with hh | hh
      · have HR := Lib.hid (small_hit hlt hh)
        go_wp2_with fail
        refine (has_any _ _ _ _ _).mono ?_
        rintro e w2 ⟨rfl, hb2⟩
        go_wp2
        go_ret
        exact ⟨ret_bool HR.out.symm, ((Below.refl _ _).alloc (Nat.le_refl _) _).trans ((hb.mono (by omega)).trans (((Below.refl _ _).alloc (by have := hb.size; simp at this; omega) _).trans (hb2.mono (by have := hb.size; simp at this; simp; omega))))⟩
      · have HR := Lib.hid hh
        go_wp2_with fail
        refine (has_any _ _ _ _ _).mono ?_
        rintro e w2 ⟨rfl, hb2⟩
        go_wp2
        go_roundw
        case rel =>
          refine ⟨k + 1, by omega, by go_num, (hb.alloc (by have := hb.size; simp at this; omega) _).trans (hb2.mono (by have := hb.size; simp at this; simp; omega)), fun j hj => ?_⟩
          rcases Nat.lt_or_ge j k with h | h
          · exact HN.out j h
          · obtain rfl : j = k := by omega
            exact HR.out
        case measure => simp [intOf]; omega
    · go_wp2
      go_ret
      exact ⟨ret_bool (small_none (fun j hj => HN.out j (by omega))).symm, ((Below.refl _ _).alloc (Nat.le_refl _) _).trans (hb.mono (by omega))⟩
theorem kindN_small {r : Nat} (h : smallN r = true) : kindN r = 1 := by unfold kindN; rw [if_pos h]
theorem kindN_digit {r : Nat} (h : smallN r = false) (h2 : 48 ≤ r ∧ r ≤ 57) : kindN r = 2 := by unfold kindN; rw [if_neg (by simp [h]), if_pos h2]
theorem kindN_sign {r : Nat} (h : smallN r = false) (h2 : ¬ (48 ≤ r ∧ r ≤ 57)) (h3 : r = 45 ∨ r = 46) : kindN r = 3 := by unfold kindN; rw [if_neg (by simp [h]), if_neg h2, if_pos h3]
theorem kindN_great {r : Nat} (h : smallN r = false) (h2 : ¬ (48 ≤ r ∧ r ≤ 57)) (h3 : ¬ (r = 45 ∨ r = 46)) (h4 : greatN r = true) : kindN r = 4 := by unfold kindN; rw [if_neg (by simp [h]), if_neg h2, if_neg h3, if_pos h4]
theorem kindN_other {r : Nat} (h : smallN r = false) (h2 : ¬ (48 ≤ r ∧ r ≤ 57)) (h3 : ¬ (r = 45 ∨ r = 46)) (h4 : greatN r = false) : kindN r = 0 := by unfold kindN; rw [if_neg (by simp [h]), if_neg h2, if_neg h3, if_neg (by simp [h4])]
set_option maxHeartbeats 400000 in
theorem kind_any (r : Nat) (w : World) (hr : r < 1114112) :
    Calls Tryz.prog 181 #[.int .i32 r] w fun e w' => e = .returned (.int .i64 (kindN r : Nat)) ∧ Below w.heap.size w w' := by
  rcases Bool.eq_false_or_eq_true (smallN r) with h1 | h1
  · have H := Lib.hid (show kindN r = 1 from kindN_small h1)
    go_enter Tryz.func181, Tryz.ntmps181
    go_wp2_with (go_at_call 214; refine (letter_any _ _).mono ?_; rintro e w' ⟨rfl, hb⟩)
    go_ret
    exact ⟨ret_int (by rw [H.out]; rfl), hb⟩
  · by_cases h2 : 48 ≤ r
    · by_cases h3 : r ≤ 57
      · have H := Lib.hid (show kindN r = 2 from kindN_digit h1 ⟨h2, h3⟩)
        go_enter Tryz.func181, Tryz.ntmps181
        go_wp2_with (go_at_call 214; refine (letter_any _ _).mono ?_; rintro e w' ⟨rfl, hb⟩)
        go_ret
        exact ⟨ret_int (by rw [H.out]; rfl), hb⟩
      · by_cases h4 : 65 ≤ r
        · have h5 : ((r : Int) == 45) = false := beq_eq_false_iff_ne.2 (by omega)
          have h6 : ((r : Int) == 46) = false := beq_eq_false_iff_ne.2 (by omega)
          rcases Bool.eq_false_or_eq_true (smallN (r + 32)) with h7 | h7
          · have H := Lib.hid (show kindN r = 4 from kindN_great h1 (by omega) (by omega) (by rw [greatN_small, h7]; simp; omega))
            go_enter Tryz.func181, Tryz.ntmps181
            go_wp2_with fail
            refine (letter_any _ _).mono ?_
            rintro e w1 ⟨rfl, hb⟩
            go_wp2_with fail
            rw [show (r : Int) + 32 = ((r + 32 : Nat) : Int) from by omega]
            refine (letter_any _ _).mono ?_
            rintro e w2 ⟨rfl, hb2⟩
            go_wp2
            go_ret
            exact ⟨ret_int (by rw [H.out]; rfl), hb.trans (hb2.mono hb.size)⟩
          · have H := Lib.hid (show kindN r = 0 from kindN_other h1 (by omega) (by omega) (by rw [greatN_small, h7]; simp))
            go_enter Tryz.func181, Tryz.ntmps181
            go_wp2_with fail
            refine (letter_any _ _).mono ?_
            rintro e w1 ⟨rfl, hb⟩
            go_wp2_with fail
            rw [show (r : Int) + 32 = ((r + 32 : Nat) : Int) from by omega]
            refine (letter_any _ _).mono ?_
            rintro e w2 ⟨rfl, hb2⟩
            go_wp2
            go_ret
            exact ⟨ret_int (by rw [H.out]; rfl), hb.trans (hb2.mono hb.size)⟩
        · have h5 : ((r : Int) == 45) = false := beq_eq_false_iff_ne.2 (by omega)
          have h6 : ((r : Int) == 46) = false := beq_eq_false_iff_ne.2 (by omega)
          have H := Lib.hid (show kindN r = 0 from kindN_other h1 (by omega) (by omega) (by rw [greatN_small]; simp; omega))
          go_enter Tryz.func181, Tryz.ntmps181
          go_wp2_with (go_at_call 214; refine (letter_any _ _).mono ?_; rintro e w' ⟨rfl, hb⟩)
          go_ret
          exact ⟨ret_int (by rw [H.out]; rfl), hb⟩
    · by_cases h4 : r = 45
      · subst h4
        have H := Lib.hid (show kindN 45 = 3 from kindN_sign (r := 45) h1 (by omega) (by omega))
        go_enter Tryz.func181, Tryz.ntmps181
        go_wp2_with (go_at_call 214; refine (letter_any _ _).mono ?_; rintro e w' ⟨rfl, hb⟩)
        go_ret
        exact ⟨ret_int (by rw [H.out]; rfl), hb⟩
      · by_cases h5 : r = 46
        · subst h5
          have H := Lib.hid (show kindN 46 = 3 from kindN_sign (r := 46) h1 (by omega) (by omega))
          go_enter Tryz.func181, Tryz.ntmps181
          go_wp2_with (go_at_call 214; refine (letter_any _ _).mono ?_; rintro e w' ⟨rfl, hb⟩)
          go_ret
          exact ⟨ret_int (by rw [H.out]; rfl), hb⟩
        · have h6 : ((r : Int) == 45) = false := beq_eq_false_iff_ne.2 (by omega)
          have h7 : ((r : Int) == 46) = false := beq_eq_false_iff_ne.2 (by omega)
          have H := Lib.hid (show kindN r = 0 from kindN_other h1 (by omega) (by omega) (by rw [greatN_small]; simp; omega))
          go_enter Tryz.func181, Tryz.ntmps181
          go_wp2_with (go_at_call 214; refine (letter_any _ _).mono ?_; rintro e w' ⟨rfl, hb⟩)
          go_ret
          exact ⟨ret_int (by rw [H.out]; rfl), hb⟩
end Go.Proofs.YtjmlimogmmikoaaGreatDoor
namespace Go.Proofs.YtjmlimogmmikoaaGreatDoor
open Go.RowKit
theorem decode_width (s : ByteArray) (pos : Nat) : (Utf8.decode s pos).2 ≤ 4 := by
  unfold Utf8.decode
  have key : ∀ {c : Prop} [Decidable c] {a b : Nat × Nat}, a.2 ≤ 4 → b.2 ≤ 4 → (if c then a else b).2 ≤ 4 := by
    intro c _ a b ha hb
    split
    · exact ha
    · exact hb
  refine key ?_ (key (key ?_ ?_) (key (key ?_ ?_) (key (key ?_ ?_) ?_))) <;> simp only [] <;> omega
theorem all_append_bad {l r : List Nat} {x : Nat} (h : okR x = false) : (l ++ x :: r).all okR = false := by simp [h]
theorem nameB_bad {s : ByteArray} {l r : List Nat} {x : Nat} (h : l ++ x :: r = runes s) (hx : okR x = false) : nameB s = false := by
  unfold nameB
  rw [← h, all_append_bad hx]
  rfl
theorem nameB_all {s : ByteArray} {l : List Nat} (h : l = runes s) (hl : l.all okR = true) : nameB s = decide (1 ≤ l.length ∧ l.length ≤ 16) := by
  unfold nameB
  rw [← h, hl]
  rfl
set_option maxHeartbeats 1000000 in
theorem name_any (s : ByteArray) (w : World) (hs : s.size ≤ 140737488351232) :
    Calls Tryz.prog 128 #[.string s] w fun e w' => e = .returned (.bool (nameB s)) ∧ Below w.heap.size w w' := by
  go_enter Tryz.func128, Tryz.ntmps128
  go_wp2
  go_loopw [3] (fun n wr => ∃ (pos f : Nat) (l : List Nat), n = .int .i64 (l.length : Nat) ∧ l ++ runesF s f pos = runes s ∧ l.all okR = true ∧ s.size ≤ pos + f ∧ l.length ≤ pos ∧ pos ≤ s.size + 4 ∧ wr.heap[w.heap.size]? = some (.stringIter s pos) ∧ Below w.heap.size w wr)
    (fun _ wr => s.size - wr.iterPos w.heap.size)
  case atStart =>
    exact ⟨0, s.size, [], rfl, rfl, rfl, by omega, by simp, by omega, World.iter_heap _ _ _, (Below.refl _ _).alloc (Nat.le_refl _) _⟩
  case round =>
    obtain ⟨pos, f, l, rfl, hl, hok, hf, hlp, hp4, hit, hb⟩ := hrel
    have HL := Lib.hid hl; clear hl
    have HK := Lib.hid hok; clear hok
    by_cases hp : pos < s.size
    · have hnx := fun ty => Lib.run_next_any_at (P := Tryz.prog) wr w.heap.size s pos ty hit hp
      obtain ⟨g, rfl, hg⟩ := runesF_more s f pos hp hf
      have HG := Lib.hid hg; clear hg
      obtain ⟨hd1, hd2, _⟩ := decode_small s pos
      have hb1 : Below w.heap.size w (wr.iterAt w.heap.size s (pos + (Utf8.decode s pos).2)) := Lib.below_iterAt hb (Nat.le_refl _) _ _
      have hit1 : (wr.iterAt w.heap.size s (pos + (Utf8.decode s pos).2)).heap[w.heap.size]? = some (.stringIter s (pos + (Utf8.decode s pos).2)) := Lib.iterAt_heap _ _ _ _ _ hit
      have hsz : w.heap.size < (wr.iterAt w.heap.size s (pos + (Utf8.decode s pos).2)).heap.size := by
        rw [Lib.iterAt_size]
        exact (Array.getElem?_eq_some_iff.1 hit).1
      have HB1 := Lib.hid hb1; clear hb1
      have HI1 := Lib.hid hit1; clear hit1
      have hdw : (Utf8.decode s pos).2 ≤ 4 := decode_width s pos
      go_wp2_with fail
      refine (kind_any _ _ hd1).mono ?_
      rintro e w2 ⟨rfl, hb2⟩
      have hit2 := hb2.block w.heap.size hsz
      rw [HI1.out] at hit2
      by_cases h0 : kindN (Utf8.decode s pos).1 = 0
      · have HF := Lib.hid (nameB_bad (s := s) (l := l) (x := (Utf8.decode s pos).1) (r := runesF s g (pos + (Utf8.decode s pos).2)) (by rw [← HG.out, HL.out]) (by simp [okR, h0]))
        rw [h0]
        clear h0 hnx hit2
        go_wp2
        go_ret
        exact ⟨ret_bool HF.out.symm, HB1.out.trans (hb2.mono (by omega))⟩
      · by_cases h4 : kindN (Utf8.decode s pos).1 = 4
        · have HF := Lib.hid (nameB_bad (s := s) (l := l) (x := (Utf8.decode s pos).1) (r := runesF s g (pos + (Utf8.decode s pos).2)) (by rw [← HG.out, HL.out]) (by simp [okR, h4]))
          rw [h4]
          clear h0 h4 hnx hit2
          go_wp2
          go_ret
          exact ⟨ret_bool HF.out.symm, HB1.out.trans (hb2.mono (by omega))⟩
        · have HF := Lib.hid (show okR (Utf8.decode s pos).1 = true by simp [okR, h0, h4])
          generalize hk : kindN (Utf8.decode s pos).1 = K at *
          clear hk hnx
          have e0 : ((K : Int) == 0) = false := beq_eq_false_iff_ne.2 (by omega)
          have e4 : ((K : Int) == 4) = false := beq_eq_false_iff_ne.2 (by omega)
          have HI2 := Lib.hid hit2
          clear hit2
          go_wp2
          go_roundw
          case rel =>
            exact ⟨pos + (Utf8.decode s pos).2, g, l ++ [(Utf8.decode s pos).1], by simp, by rw [List.append_assoc, List.singleton_append, ← HG.out, HL.out], by simp [HK.out, HF.out], by omega, by simp; omega, by omega, HI2.out, HB1.out.trans (hb2.mono (by omega))⟩
          case measure =>
            rw [iterPos_of HI2.out, iterPos_of hit]
            omega
    · have hnx := fun ty => Lib.run_next_end_at (P := Tryz.prog) wr w.heap.size s pos ty hit hp
      have HE := Lib.hid (nameB_all (s := s) (l := l) (by rw [← HL.out, runesF_end s f pos hp, List.append_nil]) HK.out)
      by_cases h1 : 1 ≤ l.length
      · go_wp2_with fail
        go_ret
        refine ⟨ret_bool ?_, hb⟩
        rw [HE.out, Bool.eq_iff_iff]
        simp only [decide_eq_true_eq]
        omega
      · have H1 := Lib.hid h1
        go_wp2_with fail
        go_ret
        refine ⟨ret_bool ?_, hb⟩
        rw [HE.out]
        exact (decide_eq_false fun h => H1.out h.1).symm
/-! ### The reference's own -/
end Go.Proofs.YtjmlimogmmikoaaGreatDoor
namespace Go.Proofs.YtjmlimogmmikoaaGreatDoor
open Go.RowKit
abbrev Pr := ByteArray × ByteArray
def ba (l : List UInt8) : ByteArray := ⟨l.toArray⟩
theorem ba_toList (l : List UInt8) : (ba l).data.toList = l := by simp [ba]
theorem ba_of (s : ByteArray) : ba s.data.toList = s := by obtain ⟨a⟩ := s; simp [ba]
def splitL (c : UInt8) : List UInt8 → List (List UInt8)
  | [] => [[]]
  | x :: r => if x = c then [] :: splitL c r else match splitL c r with | [] => [[x]] | p :: ps => (x :: p) :: ps
theorem splitL_none {c : UInt8} : ∀ {s : List UInt8}, c ∉ s → splitL c s = [s]
  | [], _ => rfl
  | x :: r, h => by
    rw [splitL, if_neg (fun e => h (by simp [e])), splitL_none (s := r) (fun e => h (List.mem_cons_of_mem _ e))]
theorem splitL_app {c : UInt8} : ∀ {a b : List UInt8}, c ∉ a → splitL c (a ++ c :: b) = a :: splitL c b
  | [], b, _ => by simp [splitL]
  | x :: r, b, h => by
    rw [List.cons_append, splitL, if_neg (fun e => h (by simp [e])), splitL_app (a := r) (fun e => h (List.mem_cons_of_mem _ e))]
theorem splitL_ne (c : UInt8) (s : List UInt8) : splitL c s ≠ [] := by
  cases s with
  | nil => simp [splitL]
  | cons x r =>
    rw [splitL]
    split
    · simp
    · split <;> simp
theorem first_of {c : UInt8} (s : List UInt8) : c ∉ s ∨ ∃ a b, s = a ++ c :: b ∧ c ∉ a := by
  by_cases h : c ∈ s
  · exact .inr (List.eq_append_cons_of_mem h)
  · exact .inl h
theorem indexByte_none {c : UInt8} : ∀ {s : List UInt8}, c ∉ s → Lib.indexByte s c = -1
  | [], _ => rfl
  | x :: r, h => by
    have h1 : ¬ (x == c) = true := fun e => h (by simp [beq_iff_eq.1 e])
    rw [Lib.indexByte, if_neg h1, indexByte_none (s := r) (fun e => h (List.mem_cons_of_mem _ e))]
    rfl
theorem indexByte_app {c : UInt8} : ∀ {a b : List UInt8}, c ∉ a → Lib.indexByte (a ++ c :: b) c = a.length
  | [], b, _ => by simp [Lib.indexByte]
  | x :: r, b, h => by
    have h1 : ¬ (x == c) = true := fun e => h (by simp [beq_iff_eq.1 e])
    have ih := indexByte_app (a := r) (b := b) (fun e => h (List.mem_cons_of_mem _ e))
    rw [List.cons_append, Lib.indexByte, if_neg h1, ih, if_neg (by rw [beq_iff_eq]; omega)]
    simp
theorem index_none {c : UInt8} {s : List UInt8} (h : c ∉ s) : Lib.index s [c] = -1 := by rw [Lib.index_one, indexByte_none h]
theorem index_app {c : UInt8} {a b : List UInt8} (h : c ∉ a) : Lib.index (a ++ c :: b) [c] = a.length := by rw [Lib.index_one, indexByte_app h]
theorem drop_app {c : UInt8} (a b : List UInt8) : (a ++ c :: b).drop (a.length + 1) = b := by
  rw [show a ++ c :: b = (a ++ [c]) ++ b by simp]
  exact List.drop_left' (by simp)
theorem contains_none {c : UInt8} {s : List UInt8} (h : c ∉ s) : Lib.contains s [c] = false := by simp [Lib.contains, index_none h]
theorem contains_some {c : UInt8} {s : List UInt8} (h : c ∈ s) : Lib.contains s [c] = true := by
  obtain ⟨a, b, rfl, ha⟩ := List.eq_append_cons_of_mem h
  simp [Lib.contains, index_app ha]
theorem cut_none {c : UInt8} {s : List UInt8} (h : c ∉ s) : Lib.cut s [c] = (s, [], false) := by
  rw [Lib.cut, index_none h, if_neg (by omega)]
theorem cut_app {c : UInt8} {a b : List UInt8} (h : c ∉ a) : Lib.cut (a ++ c :: b) [c] = (a, b, true) := by
  rw [Lib.cut, index_app h, if_pos (by omega)]
  simp only [Int.toNat_natCast, List.length_singleton]
  rw [drop_app]
  simp
theorem count_none {c : UInt8} {s : List UInt8} (h : c ∉ s) : Lib.count s [c] = 0 := Lib.count_miss (index_none h)
theorem count_app {c : UInt8} {a b : List UInt8} (h : c ∉ a) : Lib.count (a ++ c :: b) [c] = 1 + Lib.count b [c] := by
  rw [Lib.count_hit (i := a.length) (by simp) (index_app h)]
  simp only [List.length_singleton]
  rw [drop_app]
theorem splitK_splitL (c : UInt8) : ∀ (n : Nat) (s : List UInt8), s.length ≤ n → Lib.splitK [c] 0 (Lib.count s [c]) s = splitL c s := by
  intro n
  induction n with
  | zero =>
    intro s hs
    have : s = [] := List.length_eq_zero_iff.1 (by omega)
    subst this
    rw [count_none (by simp)]
    rfl
  | succ n ih =>
    intro s hs
    rcases first_of (c := c) s with h | ⟨a, b, rfl, ha⟩
    · rw [count_none h, splitL_none h]
      rfl
    · rw [count_app ha, splitL_app ha, Nat.add_comm, Lib.splitK, index_app ha, if_neg (by rw [beq_iff_eq]; omega)]
      simp only [Int.toNat_natCast, Nat.add_zero, List.length_singleton]
      rw [drop_app, ih b (by simp at hs; omega)]
      simp
theorem splitB_pieces (c : UInt8) (s : ByteArray) : Lib.splitB ⟨#[c]⟩ 0 (Lib.countB s ⟨#[c]⟩) s = (splitL c s.data.toList).map ba := by
  have h := Lib.splitB_data ⟨#[c]⟩ 0 (Lib.countB s ⟨#[c]⟩) s
  have e : Lib.splitK [c] 0 (Lib.countB s ⟨#[c]⟩) s.data.toList = splitL c s.data.toList := splitK_splitL c _ _ (Nat.le_refl _)
  rw [show (⟨#[c]⟩ : ByteArray).data.toList = [c] from rfl, e] at h
  rw [← h, List.map_map]
  conv => lhs; rw [← List.map_id (Lib.splitB ⟨#[c]⟩ 0 (Lib.countB s ⟨#[c]⟩) s)]
  exact List.map_congr_left fun x _ => (ba_of x).symm
theorem splitL_length (c : UInt8) : ∀ s : List UInt8, (splitL c s).length = Lib.count s [c] + 1 := by
  intro s
  generalize hn : s.length = n
  induction n using Nat.strongRecOn generalizing s with
  | _ n ih =>
    rcases first_of (c := c) s with h | ⟨a, b, rfl, ha⟩
    · rw [count_none h, splitL_none h]; rfl
    · rw [count_app ha, splitL_app ha, List.length_cons, ih b.length (by simp at hn; omega) b rfl]
      omega
theorem splitL_mem_le (c : UInt8) : ∀ (s : List UInt8) (p : List UInt8), p ∈ splitL c s → p.length ≤ s.length
  | [], p, h => by simp [splitL] at h; subst h; simp
  | x :: r, p, h => by
    rw [splitL] at h
    split at h
    · rcases List.mem_cons.1 h with rfl | h
      · simp
      · have := splitL_mem_le c r p h; simp; omega
    · split at h
      · simp at h; subst h; simp
      · rename_i q qs e
        rcases List.mem_cons.1 h with rfl | h
        · have := splitL_mem_le c r q (by rw [e]; simp); simp; omega
        · have := splitL_mem_le c r p (by rw [e]; exact List.mem_cons_of_mem _ h); simp; omega
theorem join_splitL (c : UInt8) : ∀ s : List UInt8, Lib.join (splitL c s) [c] = s := by
  intro s
  generalize hn : s.length = n
  induction n using Nat.strongRecOn generalizing s with
  | _ n ih =>
    rcases first_of (c := c) s with h | ⟨a, b, rfl, ha⟩
    · rw [splitL_none h]; simp [Lib.join, List.intercalate, List.intersperse]
    · have e := ih b.length (by simp at hn; omega) b rfl
      rw [splitL_app ha]
      obtain ⟨p, ps, hp⟩ : ∃ p ps, splitL c b = p :: ps := by
        cases hb : splitL c b with
        | nil => exact absurd hb (splitL_ne c b)
        | cons p ps => exact ⟨p, ps, rfl⟩
      rw [hp] at e ⊢
      have e2 : Lib.join (a :: p :: ps) [c] = a ++ c :: Lib.join (p :: ps) [c] := by simp [Lib.join, List.intercalate, List.intersperse]
      rw [e2, e]
def pairOk (k v : List UInt8) : Bool := nameB (ba k) && (decide (v = [42]) || nameB (ba v))
def oneE (x : List UInt8) : Int := match splitL 61 x with
  | [k, v] => if pairOk k v = true then 0 else 5
  | _ => 3
def oneV (x : List UInt8) : Pr := match splitL 61 x with
  | [k, v] => (ba k, ba v)
  | _ => (ba [], ba [])
def hasKey (l : List Pr) (k : ByteArray) : Bool := l.any fun p => p.1.data.toList == k.data.toList
def parseF : List Pr → List (List UInt8) → List Pr × Int
  | acc, [] => (acc, 0)
  | acc, x :: r => if oneE x ≠ 0 then ([], oneE x) else if hasKey acc (oneV x).1 = true then ([], 8) else parseF (acc ++ [oneV x]) r
def parseP (s : ByteArray) : List Pr × Int :=
  if s.size = 0 then ([], 0) else if 6 < (splitL 44 s.data.toList).length then ([], 9) else parseF [] (splitL 44 s.data.toList)
def shown (p : Pr) : List UInt8 := p.1.data.toList ++ 61 :: p.2.data.toList
def showP (l : List Pr) : List UInt8 := Lib.join (l.map shown) [44]
theorem parseF_len : ∀ (ps : List (List UInt8)) (acc : List Pr), (parseF acc ps).1.length ≤ acc.length + ps.length
  | [], acc => by simp [parseF]
  | x :: r, acc => by
    rw [parseF]
    split
    · simp
    · split
      · simp
      · have := parseF_len r (acc ++ [oneV x])
        simp at this ⊢
        omega
theorem parseP_len (s : ByteArray) : (parseP s).1.length ≤ 6 := by
  unfold parseP
  split
  · simp
  · split
    · simp
    · have := parseF_len (splitL 44 s.data.toList) []
      simp at this
      omega
theorem oneE_cases (x : List UInt8) : oneE x = 0 ∨ oneE x = 3 ∨ oneE x = 5 := by
  unfold oneE
  split
  · split <;> simp
  · simp
theorem shown_one {x : List UInt8} (h : oneE x = 0) : shown (oneV x) = x := by
  unfold oneE at h
  split at h
  · rename_i k v e
    have hv : oneV x = (ba k, ba v) := by unfold oneV; rw [e]
    have := join_splitL 61 x
    rw [e] at this
    rw [hv]
    simp only [shown, ba_toList]
    rw [← this]
    simp [Lib.join, List.intercalate, List.intersperse]
  · cases h
theorem parseF_show : ∀ (ps : List (List UInt8)) (acc l : List Pr), parseF acc ps = (l, 0) → l.map shown = acc.map shown ++ ps
  | [], acc, l, h => by
    simp [parseF] at h
    rw [h]; simp
  | x :: r, acc, l, h => by
    rw [parseF] at h
    split at h
    · rename_i hne
      simp only [Prod.mk.injEq] at h
      exact absurd h.2 hne
    · rename_i h0
      have h0' : oneE x = 0 := by simpa using h0
      split at h
      · simp at h
      · rw [parseF_show r _ l h]
        simp [shown_one h0']
theorem show_parse {s : ByteArray} {l : List Pr} (h : parseP s = (l, 0)) : showP l = s.data.toList := by
  unfold parseP at h
  split at h
  · rename_i h0
    simp at h
    subst h
    have : s.data.toList = [] := by
      apply List.length_eq_zero_iff.1
      simpa using h0
    rw [this]; rfl
  · split at h
    · simp at h
    · have := parseF_show _ _ _ h
      simp at this
      unfold showP
      rw [this, join_splitL]
end Go.Proofs.YtjmlimogmmikoaaGreatDoor
namespace Go.Proofs.YtjmlimogmmikoaaGreatDoor
open Go.RowKit
theorem cmp_self : ∀ a : List UInt8, Lib.compareBytes a a = 0
  | [] => rfl
  | x :: r => by rw [Lib.compareBytes, if_neg (by simp), if_neg (by simp), cmp_self r]
theorem cmp_eq0 : ∀ {a b : List UInt8}, Lib.compareBytes a b = 0 → a = b
  | [], [], _ => rfl
  | [], _ :: _, h => by simp [Lib.compareBytes] at h
  | _ :: _, [], h => by simp [Lib.compareBytes] at h
  | x :: r, y :: t, h => by
    rw [Lib.compareBytes] at h
    split at h
    · cases h
    · split at h
      · cases h
      · rename_i h1 h2
        have e : x = y := by
          rw [UInt8.lt_iff_toNat_lt] at h1 h2
          exact UInt8.toNat_inj.1 (by omega)
        rw [e, cmp_eq0 h]
theorem cmp_neg : ∀ (a b : List UInt8), Lib.compareBytes b a = - Lib.compareBytes a b
  | [], [] => rfl
  | [], _ :: _ => rfl
  | _ :: _, [] => rfl
  | x :: r, y :: t => by
    rw [Lib.compareBytes, Lib.compareBytes]
    have := cmp_neg r t
    simp only [UInt8.lt_iff_toNat_lt]
    split <;> split <;> try omega
    all_goals first | rfl | (split <;> first | rfl | omega)
theorem cmp_trans : ∀ {a b c : List UInt8}, Lib.compareBytes a b < 0 → Lib.compareBytes b c < 0 → Lib.compareBytes a c < 0
  | [], [], _, h, _ => by simp [Lib.compareBytes] at h
  | [], _ :: _, [], _, h => by simp [Lib.compareBytes] at h
  | [], _ :: _, _ :: _, _, _ => by simp [Lib.compareBytes]
  | _ :: _, [], _, h, _ => by simp [Lib.compareBytes] at h
  | _ :: _, _ :: _, [], _, h => by simp [Lib.compareBytes] at h
  | x :: r, y :: t, z :: u, h1, h2 => by
    have ih := @cmp_trans r t u
    rw [Lib.compareBytes] at h1 h2 ⊢
    simp only [UInt8.lt_iff_toNat_lt] at h1 h2 ⊢
    split at h1
    · split at h2
      · rw [if_pos (by omega)]; omega
      · split at h2
        · omega
        · rw [if_pos (by omega)]; omega
    · split at h1
      · omega
      · split at h2
        · rw [if_pos (by omega)]; omega
        · split at h2
          · omega
          · rw [if_neg (by omega), if_neg (by omega)]; exact ih h1 h2
def kCmp (p q : Pr) : Int := Lib.compareBytes p.1.data.toList q.1.data.toList
def kLt (p q : Pr) : Bool := decide (kCmp p q < 0)
theorem kLt_t {p q : Pr} : kLt p q = true ↔ kCmp p q < 0 := by unfold kLt; exact decide_eq_true_iff
theorem kLt_f {p q : Pr} : kLt p q = false ↔ 0 ≤ kCmp p q := by unfold kLt; rw [decide_eq_false_iff_not]; omega
theorem kCmp_neg (p q : Pr) : kCmp q p = - kCmp p q := cmp_neg _ _
theorem kCmp_key {p q : Pr} (h : kCmp p q = 0) : p.1 = q.1 := ba_ext (cmp_eq0 h)
theorem kCmp_of {p q r : Pr} (h : p.1 = q.1) : kCmp p r = kCmp q r := by unfold kCmp; rw [h]
theorem kCmp_of2 {p q r : Pr} (h : p.1 = q.1) : kCmp r p = kCmp r q := by unfold kCmp; rw [h]
theorem kLt_irrefl (p : Pr) : kLt p p = false := by rw [kLt_f]; unfold kCmp; rw [cmp_self]; exact Int.le_refl _
theorem kLt_trans {p q r : Pr} (h1 : kLt p q = true) (h2 : kLt q r = true) : kLt p r = true := by
  rw [kLt_t] at *
  exact cmp_trans h1 h2
theorem kLt_asymm {p q : Pr} (h : kLt p q = true) : kLt q p = false := by
  rw [kLt_t] at h
  rw [kLt_f, kCmp_neg p q]
  omega
theorem kLt_total {p q : Pr} (h : p.1 ≠ q.1) (h1 : kLt p q = false) : kLt q p = true := by
  rw [kLt_f] at h1
  rw [kLt_t, kCmp_neg p q]
  have : kCmp p q ≠ 0 := fun e => h (kCmp_key e)
  omega
theorem kLt_ntrans {p q r : Pr} (h1 : kLt p q = false) (h2 : kLt q r = false) : kLt p r = false := by
  by_cases e1 : p.1 = q.1
  · rw [kLt_f] at *; rw [kCmp_of e1]; exact h2
  · by_cases e2 : q.1 = r.1
    · rw [kLt_f] at *; rw [← kCmp_of2 e2]; exact h1
    · exact kLt_asymm (kLt_trans (kLt_total e2 h2) (kLt_total e1 h1))
def Once (l : List Pr) : Prop := l.Pairwise fun p q => p.1 ≠ q.1
def Rising (l : List Pr) : Prop := l.Pairwise fun p q => kLt q p = false
theorem Once.perm {l m : List Pr} (h : Once l) (hp : l.Perm m) : Once m := hp.pairwise h fun e e' => e e'.symm
theorem once_eq {l : List Pr} (h : Once l) {p q : Pr} (hp : p ∈ l) (hq : q ∈ l) (e : p.1 = q.1) : p = q := by
  induction h with
  | nil => cases hp
  | cons hx _ ih =>
    rcases List.mem_cons.1 hp with rfl | hp
    · rcases List.mem_cons.1 hq with rfl | hq
      · rfl
      · exact absurd e (hx q hq)
    · rcases List.mem_cons.1 hq with rfl | hq
      · exact absurd e.symm (hx p (by assumption))
      · exact ih hp hq
theorem rising_unique {l m : List Pr} (ho : Once l) (hp : l.Perm m) (hl : Rising l) (hm : Rising m) : l = m := by
  refine List.Perm.eq_of_pairwise (le := fun p q => kLt q p = false) ?_ hl hm hp
  intro a b ha hb h1 h2
  refine once_eq ho ha (hp.mem_iff.2 hb) ?_
  by_cases e : a.1 = b.1
  · exact e
  · have := kLt_total e h2
    rw [h1] at this
    cases this
def sortP (l : List Pr) : List Pr := l.mergeSort fun p q => !kLt q p
theorem sortP_perm (l : List Pr) : (sortP l).Perm l := List.mergeSort_perm _ _
theorem sortP_rising (l : List Pr) : Rising (sortP l) := by
  have h := List.pairwise_mergeSort (le := fun p q : Pr => !kLt q p) (fun a b c h1 h2 => by
    simp only [Bool.not_eq_true'] at *
    exact kLt_ntrans h2 h1) (fun a b => by
    rcases h1 : kLt b a with _ | _
    · simp
    · rw [kLt_asymm h1]; rfl) l
  exact h.imp fun {a b} h => by simpa using h
theorem sortP_of {l m : List Pr} (ho : Once l) (hp : m.Perm l) (hm : Rising m) : m = sortP l :=
  rising_unique (ho.perm hp.symm) (hp.trans (sortP_perm l).symm) hm (sortP_rising l)
theorem hasKey_false {l : List Pr} {k : ByteArray} (h : hasKey l k = false) : ∀ p ∈ l, p.1 ≠ k := by
  intro p hp e
  have : hasKey l k = true := by
    unfold hasKey
    rw [List.any_eq_true]
    exact ⟨p, hp, by simp [e]⟩
  rw [h] at this; cases this
theorem parseF_once : ∀ (ps : List (List UInt8)) (acc : List Pr), Once acc → Once (parseF acc ps).1
  | [], acc, h => h
  | x :: r, acc, h => by
    rw [parseF]
    split
    · exact List.Pairwise.nil
    · split
      · exact List.Pairwise.nil
      · rename_i hk
        refine parseF_once r _ ?_
        unfold Once
        rw [List.pairwise_append]
        refine ⟨h, List.pairwise_singleton _ _, fun p hp q hq => ?_⟩
        rw [List.mem_singleton] at hq
        subst hq
        exact hasKey_false (by simpa using hk) p hp
theorem parseP_once (s : ByteArray) : Once (parseP s).1 := by
  unfold parseP
  split
  · exact List.Pairwise.nil
  · split
    · exact List.Pairwise.nil
    · exact parseF_once _ _ List.Pairwise.nil
def canonE (s : ByteArray) : Int := (parseP s).2
def canonP (s : ByteArray) : List UInt8 := if canonE s = 0 then showP (sortP (parseP s).1) else []
end Go.Proofs.YtjmlimogmmikoaaGreatDoor
