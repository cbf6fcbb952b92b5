/-
  A range over a function whose iterator writes one box of its own and lays nothing else of the caller's: the law, over any program.
  strings.Lines: what its iterator tells, whatever a round does.
  sum.Crc: the walk.
  strings.Repeat by the shelf's contract, laid at this program.
  billetlaw46.live is one closed run; closed runs of the desk's functions.
  A desk that is none: the functions that its Text calls.
  DeskNil: the law's walk.
-/
import Derived.RangeFuncCalls
import Derived.RangeFuncSeq
import Derived.RangeFuncLeaves
import Derived.Below
import Derived.Test.YthdjicolicokcaaGreatDoorDn01
import Derived.TacticsIn
import Derived.RegionIn
import Derived.LoopIn
import Derived.Shelf.RegionOpen
import Derived.Lib.IndexLaws
import Derived.Test.YthdjicolicokcaaGreatDoorDn07
import Derived.Deep.LoopGhost
import Derived.Deep.DeepCutAuto
import Derived.IntWalk
import Derived.Shelf.Strings.Repeat
import Derived.KernelRfl
namespace Go.Proofs.YthdjicolicokcaaGreatDoor
open Go Go.RowKit
structure Apart (B b : Nat) (w w' : World) : Prop where
  os : w'.os = w.os
  tape : w'.tape = w.tape
  output : w'.output = w.output
  size : w.heap.size ≤ w'.heap.size
  block : ∀ k, k < B → k ≠ b → w'.heap[k]? = w.heap[k]?
theorem Apart.refl (B b : Nat) (w : World) : Apart B b w w := ⟨rfl, rfl, rfl, Nat.le_refl _, fun _ _ _ => rfl⟩
theorem Apart.trans {B b : Nat} {u v w : World} (h : Apart B b u v) (k : Apart B b v w) : Apart B b u w :=
  ⟨k.os.trans h.os, k.tape.trans h.tape, k.output.trans h.output, Nat.le_trans h.size k.size, fun i hi hb => (k.block i hi hb).trans (h.block i hi hb)⟩
theorem Apart.mono {B B' b : Nat} {w w' : World} (h : Apart B b w w') (hB : B' ≤ B) : Apart B' b w w' := ⟨h.os, h.tape, h.output, h.size, fun k hk => h.block k (Nat.lt_of_lt_of_le hk hB)⟩
theorem Apart.of_below {B b : Nat} {w w' : World} (h : Below B w w') : Apart B b w w' := ⟨h.os, h.tape, h.output, h.size, fun k hk _ => h.block k hk⟩
theorem Apart.alloc {B b : Nat} {a w : World} (h : Apart B b a w) (hB : B ≤ w.heap.size) (o : Obj) : Apart B b a (w.alloc o) := h.trans (Apart.of_below ((Below.refl _ _).alloc hB o))
theorem Apart.putObj {B b : Nat} {a w : World} (h : Apart B b a w) {l : Nat} (hB : B ≤ l) (o : Obj) : Apart B b a (w.putObj l o) :=
  h.trans ⟨rfl, rfl, rfl, by simp, fun k hk _ => World.putObj_heap_other (by omega)⟩
theorem Apart.setCell {B b : Nat} {a w : World} (h : Apart B b a w) {p : Addr} (hp : p.block = b) (u : Value) : Apart B b a (w.setCell p u) :=
  h.trans ⟨rfl, rfl, rfl, by simp [World.setCell], fun k _ hk => Below.heap_setCell _ _ _ _ (by rw [hp]; exact hk)⟩
theorem Apart.drew {B b : Nat} {a w : World} (h : Apart B b a w) : Apart B b a w.drew := ⟨h.os, h.tape, h.output, h.size, h.block⟩
def RoundOk (b B : Nat) (I : World → Prop) (W : World) (e : Exit) (W' : World) : Prop := e = .normal ∧ I W' ∧ W.heap.size ≤ W'.heap.size ∧ ∀ k, k = b ∨ B ≤ k → k < W.heap.size → W'.heap[k]? = W.heap[k]?
variable {F : Fence} {n : Nat} {P : Program}
set_option maxHeartbeats 1000000 in
theorem wpIn_range_box {g : Operand} {ps : Array Tmp} {assign body : Code} {Q : Exit → Act → World → Prop} {a : Act} {w : World}
    (hro : F.round = none) (h1 : 1 ≤ n) {gf : Nat} {lb : Array Value} (hg : a.eval g = .func (.func gf) #[] lb) (hFg : F.fn gf) (eg : ∀ args w, (callFunc gf args).run P w = .ok (.enter gf args) w)
    {b : Nat} (hb : b < w.heap.size) (hps : ps.size = 1)
    (X : ByteArray → Prop) (I : World → Prop) (hI : ∀ W W', I W → Apart w.heap.size b W W' → I W') (h0 : I w) (a₁ : ByteArray → Act)
    (hiter : ∀ (l B : Nat) (J : World → Prop) (W : World), W.heap[b]? = w.heap[b]? → b < B → B ≤ W.heap.size → (∀ A A', J A → Apart B b A A' → J A') →
      (∀ x W1, X x → J W1 → YieldAt F (n - 1 - 1) P l #[.string x] W1 fun e W' => e = .returned (.bool true) ∧ J W' ∧ W'.heap[b]? = W1.heap[b]? ∧ W1.heap.size ≤ W'.heap.size) →
      J W → CallsIn F (n - 1) P gf (#[.func (.yield l) #[] #[]] ++ lb) W fun e W' => (∃ v, e = .returned v) ∧ J W')
    (hassign : ∀ (l : Nat) (x : ByteArray) (W : World) (K : Act → World → Prop), K (a₁ x) W →
      assign.wpIn (F.inRound l) (n - 1 - 1) P (Exit.then K (fun _ _ _ => False)) { tmps := (ps.zip #[.string x]).foldl (fun t (p, v) => t.setIfInBounds p v) a.tmps, defers := [] } W)
    (hbody : ∀ (l : Nat) (x : ByteArray) (W : World), X x → I W → w.heap.size + 2 ≤ W.heap.size →
      body.wpIn (F.inRound l) (n - 1 - 1) P (fun e _ W' => RoundOk b w.heap.size I W e W') (a₁ x) W)
    (hdone : ∀ (W : World), I W → w.heap.size + 2 ≤ W.heap.size → W.heap[w.heap.size]? = some (.deferred (some [])) → Q .normal { a with defers := { target := .collected w.heap.size, args := #[] } :: a.defers } W) :
    (Code.rangeFunc g ps assign body).wpIn F n P Q a w := by
  refine wpIn_rangeFunc fun fn hfn => ?_
  rw [hro]
  obtain ⟨rec, hrec⟩ : ∃ rec : LoopState → Option Code → Loop, rec = fun st pe => { state := st, pending := pe, fn, tmps := a.tmps, params := ps, assign, body, defers := w.heap.size } := ⟨_, rfl⟩
  obtain ⟨W1, hW1⟩ : ∃ W1, (w.alloc (.deferred (some []))).alloc (.loop (rec .ready none)) = W1 := ⟨_, rfl⟩
  have hs1 : W1.heap.size = w.heap.size + 2 := by rw [← hW1]; simp
  have hA1 : Apart w.heap.size b w W1 := by
    rw [← hW1]
    exact ((Apart.refl _ _ w).alloc (Nat.le_refl _) _).alloc (by simp) _
  have hL1 : W1.heap[w.heap.size + 1]? = some (.loop (rec .ready none)) := by
    rw [← hW1]
    have := World.alloc_heap_new (w.alloc (.deferred (some []))) (.loop (rec .ready none))
    rwa [World.size_alloc] at this
  have hK1 : W1.heap[w.heap.size]? = some (.deferred (some [])) := by
    rw [← hW1]
    exact (Below.heap_alloc _ _ _ (by simp)).trans (World.alloc_heap_new w _)
  have hB1 : W1.heap[b]? = w.heap[b]? := by
    rw [← hW1]
    exact (Below.heap_alloc _ _ _ (by simp; omega)).trans (Below.heap_alloc _ _ _ hb)
  refine ⟨w.heap.size + 1, [{ target := .collected w.heap.size, args := #[] }], W1, { target := .fn (.func gf) lb, args := #[.func (.yield (w.heap.size + 1)) #[] #[]] }, W1, gf,
    #[.func (.yield (w.heap.size + 1)) #[] #[]] ++ lb, W1, ?_, ?_, ?_, ?_, fun _ => h1, ?_⟩
  · rw [← hW1, hrec]
    exact run_enterLoop_outer _ _ _ _ _
  · simp only [resolve, hg]
    simp [go_sem]
  · intro f' hf'
    simp [Target.leads] at hf'
    subst hf'
    exact hFg
  · simp [invoke, go_sem, eg]
  · refine (hiter (w.heap.size + 1) (w.heap.size + 2)
      (fun W => I W ∧ W.heap[w.heap.size + 1]? = some (.loop (rec .ready none)) ∧ W.heap[w.heap.size]? = some (.deferred (some [])) ∧ w.heap.size + 2 ≤ W.heap.size) W1 hB1 (by omega) (by omega)
      (fun A A' hs hA => ⟨hI A A' hs.1 (hA.mono (by omega)), (hA.block _ (by omega) (by omega)).trans hs.2.1, (hA.block _ (by omega) (by omega)).trans hs.2.2.1, Nat.le_trans hs.2.2.2 hA.size⟩)
      ?_ ⟨hI _ _ h0 hA1, hL1, hK1, by omega⟩).mono ?_
    · rintro x W hx ⟨hi, hl, hk, hsz⟩
      have hy := run_yield (P := P) (args := #[Value.string x]) hl (by rw [hrec]; exact hps.symm)
      rw [hrec] at hy
      refine ⟨fn, _, assign, body, hy, roundIn_of_wpIn hfn (hassign _ x W _ ⟨_, run_beginRound hl (by rw [hrec]), ?_⟩)⟩
      have hl2 : (W.putObj (w.heap.size + 1) (.loop { rec .ready none with state := .busy })).heap[w.heap.size + 1]? = some (.loop { rec .ready none with state := .busy }) := World.putObj_heap_same (by omega)
      refine wpIn_mono (hbody _ x _ hx (hI _ _ hi ((Apart.refl _ _ _).putObj (by omega) _)) (by simpa using hsz)) ?_
      rintro e a3 W3 ⟨rfl, hi3, hs3, hb3⟩
      have hl3 : W3.heap[w.heap.size + 1]? = some (.loop { rec .ready none with state := .busy }) := (hb3 _ (.inr (by omega)) (by simp; omega)).trans hl2
      have hk3 : W3.heap[w.heap.size]? = some (.deferred (some [])) := (hb3 _ (.inr (Nat.le_refl _)) (by simp; omega)).trans ((World.putObj_heap_other (by omega)).trans hk)
      have hbb : W3.heap[b]? = W.heap[b]? := (hb3 _ (.inl rfl) (by simp; omega)).trans (World.putObj_heap_other (by omega))
      have hs4 : W.heap.size ≤ W3.heap.size := by simpa using hs3
      have hr := run_endRound (P := P) none hl3
      refine ⟨_, _, hr, rfl, ⟨hI _ _ hi3 ((Apart.refl _ _ _).putObj (by omega) _), ?_, (World.putObj_heap_other (by omega)).trans hk3, by simp; omega⟩, (World.putObj_heap_other (by omega)).trans hbb, by simpa using hs4⟩
      rw [World.putObj_heap_same (by omega), hrec]
      rfl
    · rintro e W2 ⟨⟨v, rfl⟩, hi, hl, hk, hsz⟩
      have := run_endLoop (P := P) hl (by rw [hrec]; simp)
      rw [hrec] at this
      exact ⟨none, _, this, hdone _ (hI _ _ hi ((Apart.refl _ _ _).putObj (by omega) _)) (by simpa using hsz) ((World.putObj_heap_other (by omega)).trans hk)⟩
end Go.Proofs.YthdjicolicokcaaGreatDoor
namespace Go.Proofs.YthdjicolicokcaaGreatDoor
open Go Go.RowKit Go.Shelf
@[go_sem] theorem wide_fn (g : FuncId) : Fence.wide.fn g = True := rfl
attribute [local go_sem] Oper.semAt_some
theorem box_cell {W : World} {B : Nat} {v : Value} {t : TypeId} (h : W.heap[B]? = some (.cells #[v] t (0, 0))) : W.cell? ⟨B, 0, none⟩ = some v ∧ W.frozen? ⟨B, 0, none⟩ = false := by
  constructor <;> simp [World.cell?, World.frozen?, h]
theorem box_set {W : World} {B : Nat} {v : Value} {t : TypeId} (v' : Value) (h : W.heap[B]? = some (.cells #[v] t (0, 0))) : (W.setCell ⟨B, 0, none⟩ v').heap[B]? = some (.cells #[v'] t (0, 0)) := by
  obtain ⟨hlt, hk⟩ := Array.getElem?_eq_some_iff.1 h
  simp [World.setCell, Array.getElem?_modify, h]
def boxLen (b : Nat) (w : World) : Nat := match w.cell? ⟨b, 0, none⟩ with
  | some (.string s) => s.size
  | _ => 0
theorem boxLen_of {b : Nat} {w : World} {s : ByteArray} (h : w.cell? ⟨b, 0, none⟩ = some (.string s)) : boxLen b w = s.size := by
  unfold boxLen
  rw [h]
set_option maxRecDepth 100000 in
set_option maxHeartbeats 1000000 in
theorem idx_any (s : ByteArray) (w : World) : Calls Tryz.prog 65 #[.string s, .int .u8 10] w fun e w' => e = .returned (.int .i64 (Lib.indexByte s.data.toList 10)) ∧ w' = w := by
  go_enter Tryz.func65, Tryz.ntmps65
  go_wp2
  rw [run_callFunc_extern Tryz.func187 (by kernel_rfl) (by kernel_rfl) (by kernel_rfl) (e := Extern.BytealgIndexByte.indexByte) (by kernel_rfl), Lib.run_indexByteString]
  simp only [Result.andThen]
  rw [Oper.upon_value]
  go_wp2
  go_ret
  exact ⟨rfl, rfl⟩
set_option maxRecDepth 100000 in
set_option maxHeartbeats 2000000 in
theorem lines_iter (m l B b : Nat) (J : World → Prop) (W : World) (s : ByteArray) (hs : W.heap[b]? = some (.cells #[.string s] 9 (0, 0))) (hsz : s.size ≤ 2000)
    (hJ : ∀ A A', J A → Apart B b A A' → J A')
    (hY : ∀ x W1, x.size ≤ 2000 → J W1 → YieldAt Fence.wide m Tryz.prog l #[.string x] W1 fun e W' => e = .returned (.bool true) ∧ J W' ∧ W'.heap[b]? = W1.heap[b]? ∧ W1.heap.size ≤ W'.heap.size)
    (h0 : J W) :
    CallsIn Fence.wide (m + 1) Tryz.prog 64 #[.func (.yield l) #[] #[], .pointer (some ⟨b, 0, none⟩)] W fun e W' => (∃ v, e = .returned v) ∧ J W' := by
  refine callsIn_of_wp Tryz.func64 rfl trivial ?_ rfl
  simp only [Tryz.ntmps64, List.size_toArray, List.length_cons, List.length_nil, Nat.reduceAdd, Nat.reduceSub, Array.replicate_succ, Array.replicate_zero, List.push_toArray, List.append_toArray, List.nil_append, List.cons_append]
  gi_wp2
  gi_loopw [] (fun wr => ∃ s', wr.heap[b]? = some (.cells #[.string s'] 9 (0, 0)) ∧ s'.size ≤ 2000 ∧ J wr) (fun wr => boxLen b wr)
  case atStart => exact ⟨s, hs, hsz, h0⟩
  case round =>
    obtain ⟨s', hb', hsz', hJ'⟩ := hrel
    obtain ⟨hc, hf⟩ := box_cell hb'
    have hm := boxLen_of hc
    by_cases hz : s'.size = 0
    · gi_wp2
      go_end0
      exact ⟨⟨_, rfl⟩, hJ'⟩
    · rcases Int.eq_ofNat_of_zero_le (a := Lib.indexByte s'.data.toList 10 + 1) (by have := Lib.indexByte_ge s'.data.toList 10; omega) with ⟨k, hk⟩
      by_cases hk0 : k = 0
      · have hi : Lib.indexByte s'.data.toList 10 = -1 := by omega
        have hb2 := box_set (.string ⟨#[]⟩) hb'
        obtain ⟨fn, tmps, asg, body, hy, hR⟩ := hY s' _ hsz' (hJ _ _ hJ' ((Apart.refl B b wr).setCell (p := ⟨b, 0, none⟩) rfl (.string ⟨#[]⟩)))
        clear hk
        gi_wp2_with (gi_at_call 65; refine (callsIn_wide.2 (idx_any _ _)).mono ?_; rintro e ww ⟨rfl, rfl⟩; rw [hi])
        refine hR.mono ?_
        rintro e W3 ⟨rfl, hJ3, hb3, hs3⟩
        gi_wp2
        go_roundw
        case rel => exact ⟨_, hb3.trans hb2, Nat.zero_le _, hJ3⟩
        case measure =>
          rw [boxLen_of (box_cell (hb3.trans hb2)).1, hm]
          exact Nat.pos_of_ne_zero hz
      · obtain ⟨j, rfl⟩ : ∃ j, k = j + 1 := ⟨k - 1, by omega⟩
        have hi : Lib.indexByte s'.data.toList 10 = (j : Int) := by omega
        have hj : j < s'.size := by
          have := (Lib.indexByte_some hi).1
          have := (List.getElem?_eq_some_iff.1 this).1
          simpa using this
        have hb2 := box_set (.string (s'.extract (j + 1) s'.size)) hb'
        clear hk
        gi_wp2_with (gi_at_call 65; refine (callsIn_wide.2 (idx_any _ _)).mono ?_; rintro e ww ⟨rfl, rfl⟩; rw [hi])
        gi_region
        obtain ⟨fn, tmps, asg, body, hy, hR⟩ := hY (s'.extract 0 (j + 1)) _ (by simp; omega) (hJ _ _ hJ' ((Apart.refl B b ww).setCell (p := ⟨b, 0, none⟩) rfl (.string (s'.extract (j + 1) s'.size))).drew)
        gi_wp2
        refine hR.mono ?_
        rintro e W3 ⟨rfl, hJ3, hb3, hs3⟩
        have hb4 : W3.heap[b]? = some (.cells #[.string (s'.extract (j + 1) s'.size)] 9 (0, 0)) := hb3.trans hb2
        gi_wp2
        go_roundw
        case rel => exact ⟨_, hb4, by simp; omega, hJ3⟩
        case measure =>
          rw [boxLen_of (box_cell hb4).1, hm]
          simp
          omega
end Go.Proofs.YthdjicolicokcaaGreatDoor
namespace Go.Proofs.YthdjicolicokcaaGreatDoor
open Go.RowKit Ev
theorem xor_u32 (a b : Nat) (ha : a < 4294967296) (hb : b < 4294967296) : bits .xor .u32 (a : Int) (b : Int) = ((a ^^^ b : Nat) : Int) := by
  have hx : a ^^^ b < 2 ^ 32 := Nat.xor_lt_two_pow (by omega) (by omega)
  have h1 : (BitVec.ofInt 32 (a : Int)).toNat = a := by
    rw [BitVec.ofInt_natCast, BitVec.toNat_ofNat]; exact Nat.mod_eq_of_lt (by omega)
  have h2 : (BitVec.ofInt 32 (b : Int)).toNat = b := by
    rw [BitVec.ofInt_natCast, BitVec.toNat_ofNat]; exact Nat.mod_eq_of_lt (by omega)
  show IntKind.u32.wrap ((BitVec.ofInt 32 (a : Int) ^^^ BitVec.ofInt 32 (b : Int)).toNat : Int) = _
  rw [BitVec.toNat_xor, h1, h2, IntKind.wrap_u32]
  omega
theorem xor_lt32 (a b : Nat) (ha : a < 4294967296) (hb : b < 4294967296) : a ^^^ b < 4294967296 := Nat.xor_lt_two_pow (n := 32) (by omega) (by omega)
theorem crcBit_lt (y : Nat) : crcBit y < 4294967296 := xor_lt32 _ _ (Nat.mod_lt _ (by decide)) (Nat.mod_lt _ (by decide))
theorem crc_step (z : Nat) (hz : z < 4294967296) : bits .xor .u32 ((z : Int) * 2 % 4294967296) ((z : Int) / 2147483648 * 79764919) = (crcBit z : Int) := by
  have e1 : ((z : Int) * 2 % 4294967296) = ((z * 2 % 4294967296 : Nat) : Int) := by omega
  have e2 : ((z : Int) / 2147483648 * 79764919) = ((z / 2147483648 * 79764919 % 4294967296 : Nat) : Int) := by omega
  rw [e1, e2, xor_u32 _ _ (Nat.mod_lt _ (by decide)) (Nat.mod_lt _ (by decide))]
  rfl
theorem crc_first (y b : Nat) (hy : y < 4294967296) : bits .xor .u32 (y : Int) ((b : Int) % 4294967296 * 16777216 % 4294967296) = ((y ^^^ (b * 16777216 % 4294967296) : Nat) : Int) := by
  have e2 : ((b : Int) % 4294967296 * 16777216 % 4294967296) = ((b * 16777216 % 4294967296 : Nat) : Int) := by omega
  rw [e2, xor_u32 _ _ hy (Nat.mod_lt _ (by decide))]
theorem crcL_snoc : ∀ (l : List UInt8) (y : Nat) (b : UInt8), crcL (l ++ [b]) y = crcByte (crcL l y) b.toNat
  | [], _, _ => rfl
  | x :: l, y, b => crcL_snoc l (crcByte y x.toNat) b
set_option maxRecDepth 100000 in
set_option maxHeartbeats 4000000 in
theorem crc_any (x : Nat) (s : ByteArray) (w : World) (hx : x < 4294967296) (hs : s.size ≤ 140737488351232) : Calls Tryz.prog 577 #[.int .u32 x, .string s] w fun e w' => e = .returned (.int .u32 (crcL s.data.toList x)) ∧ w' = w := by
  go_enter Tryz.func577, Tryz.ntmps577
  go_wp2_with fail
  go_loopg [11, 5] s.size (fun g i c wr => ∃ (k y : Nat), g = s.size - k ∧ i = .int .i64 k ∧ c = .int .u32 y ∧ y < 4294967296 ∧ k ≤ s.size ∧ Hid (y = crcL (s.data.toList.take k) x) ∧ wr = w)
  case atStart => exact ⟨0, x, rfl, rfl, rfl, hx, Nat.zero_le _, Lib.hid rfl, rfl⟩
  case round =>
    obtain ⟨k, y, hg, rfl, rfl, hy, hk, HY, rfl⟩ := hrel
    have HG := Lib.hid hg
    clear hg
    by_cases hlt : k < s.size
    · have hkl : (k : Int) < (s.size : Int) := by omega
      have hf := crc_first y s[k].toNat hy
      obtain ⟨z0, hz0⟩ : ∃ z, z = y ^^^ (s[k].toNat * 16777216 % 4294967296) := ⟨_, rfl⟩
      have hzl : z0 < 4294967296 := by rw [hz0]; exact xor_lt32 _ _ hy (Nat.mod_lt _ (by decide))
      rw [← hz0] at hf
      have HZ := Lib.hid hz0
      clear hz0
      go_wp2_with fail
      have HF := Lib.hid hf
      clear hf
      go_loopg [21, 5] 8 (fun g i c w7 => ∃ (j q : Nat), g = 8 - j ∧ i = .int .i64 j ∧ c = .int .u32 q ∧ q < 4294967296 ∧ j ≤ 8 ∧ Hid (q = crcBits j z0) ∧ w7 = wr)
      case atStart => exact ⟨0, z0, rfl, rfl, rfl, hzl, by omega, Lib.hid rfl, rfl⟩
      case round =>
        obtain ⟨j, q, hg, rfl, rfl, hq, hj, HQ, rfl⟩ := hrel
        have HG2 := Lib.hid hg
        clear hg
        have hs := crc_step q hq
        have HQL := Lib.hid (crcBit_lt q)
        by_cases hj8 : j < 8
        · have HS := Lib.hid (show crcBit q = crcBits (j + 1) z0 by rw [HQ.out]; rfl)
          go_wp2_with fail
          go_roundg (8 - (j + 1))
          case rel => exact ⟨j + 1, crcBit q, rfl, by go_num, rfl, HQL.out, by omega, HS, rfl⟩
          case measure => have := HG2.out; omega
        · obtain rfl : j = 8 := by omega
          have HS := Lib.hid (show q = crcL (s.data.toList.take (k + 1)) x by
            have e : s.data.toList.take (k + 1) = s.data.toList.take k ++ [s[k]] := by
              rw [List.take_succ_eq_append_getElem (by simpa using hlt)]
              rfl
            rw [e, crcL_snoc, ← HY.out, HQ.out, HZ.out]
            rfl)
          clear hs
          go_wp2_with fail
          go_roundg (s.size - (k + 1))
          case rel => exact ⟨k + 1, q, rfl, by go_num, rfl, hq, by omega, HS, rfl⟩
          case measure => have := HG.out; omega
    · have HE := Lib.hid (show y = crcL s.data.toList x by
        rw [HY.out, List.take_of_length_le (by simpa using Nat.le_of_not_lt hlt)])
      go_wp2_with fail
      go_ret
      exact ⟨congrArg (fun n : Nat => Ending.returned (.int .u32 (n : Int))) HE.out, rfl⟩
theorem crcC : CrcC Tryz.prog 577 := fun x s w hx hs => (crc_any x s w hx (by omega)).mono fun e w' ⟨h1, h2⟩ => ⟨h1, by rw [h2]; exact Below.refl _ _⟩
end Go.Proofs.YthdjicolicokcaaGreatDoor
namespace Go.Proofs.YthdjicolicokcaaGreatDoor
open Go.Shelf
def Tryz.lays105_ren : Go.Shelf.Ren := ⟨fun | 105 => 100 | 212 => 188 | 99 => 189 | 165 => 77 | 166 => 38 | 170 => 186 | 169 => 40 | 263 => 337 | 264 => 338 | 206 => 113 | 240 => 66 | 241 => 117 | 276 => 98 | 277 => 206 | n => n, fun | 9 => 9 | 3 => 3 | 4 => 4 | 20 => 20 | 0 => 0 | 46 => 149 | 109 => 300 | 5 => 5 | 72 => 84 | 76 => 90 | 51 => 234 | 146 => 322 | 53 => 59 | 148 => 486 | 70 => 81 | 37 => 82 | 75 => 89 | 127 => 129 | 164 => 183 | 80 => 93 | n => n, fun | n => n⟩
theorem Tryz.lays105 : Go.Proofs.Lays.n105 Tryz.prog Tryz.lays105_ren := {
  mixed := by kernel_rfl
  f99 := Tryz.func189.trans (congrArg some (by kernel_rfl))
  f105 := Tryz.func100.trans (congrArg some (by kernel_rfl))
  f165 := Tryz.func77.trans (congrArg some (by kernel_rfl))
  f166 := Tryz.func38.trans (congrArg some (by kernel_rfl))
  f169 := Tryz.func40.trans (congrArg some (by kernel_rfl))
  f170 := Tryz.func186.trans (congrArg some (by kernel_rfl))
  f206 := Tryz.func113.trans (congrArg some (by kernel_rfl))
  f212 := Tryz.func188.trans (congrArg some (by kernel_rfl))
  f240 := Tryz.func66.trans (congrArg some (by kernel_rfl))
  f241 := Tryz.func117.trans (congrArg some (by kernel_rfl))
  f263 := Tryz.func337.trans (congrArg some (by kernel_rfl))
  f264 := Tryz.func338.trans (congrArg some (by kernel_rfl))
  f276 := Tryz.func98.trans (congrArg some (by kernel_rfl))
  f277 := Tryz.func206.trans (congrArg some (by kernel_rfl))
  t0 := Tryz.underlying0
  a0 := Tryz.isAgg0
  z0 := Tryz.sizeOf0
  v0 := Tryz.zeroValue0
  t3 := Tryz.underlying3
  a3 := Tryz.isAgg3
  z3 := Tryz.sizeOf3
  v3 := Tryz.zeroValue3
  t4 := Tryz.underlying4
  a4 := Tryz.isAgg4
  z4 := Tryz.sizeOf4
  v4 := Tryz.zeroValue4
  t5 := Tryz.underlying5
  a5 := Tryz.isAgg5
  z5 := Tryz.sizeOf5
  v5 := Tryz.zeroValue5
  t9 := Tryz.underlying9
  a9 := Tryz.isAgg9
  z9 := Tryz.sizeOf9
  v9 := Tryz.zeroValue9
  t20 := Tryz.underlying20
  a20 := Tryz.isAgg20
  z20 := Tryz.sizeOf20
  v20 := Tryz.zeroValue20
  t37 := Tryz.underlying82
  a37 := Tryz.isAgg82
  z37 := Tryz.sizeOf82
  v37 := Tryz.zeroValue82
  t46 := Tryz.underlying149
  a46 := Tryz.isAgg149
  z46 := Tryz.sizeOf149
  v46 := Tryz.zeroValue149
  t51 := Tryz.underlying234
  a51 := Tryz.isAgg234
  z51 := Tryz.sizeOf234
  v51 := Tryz.zeroValue234
  t53 := Tryz.underlying59
  a53 := Tryz.isAgg59
  z53 := Tryz.sizeOf59
  v53 := Tryz.zeroValue59
  t70 := Tryz.underlying81
  a70 := Tryz.isAgg81
  z70 := Tryz.sizeOf81
  v70 := Tryz.zeroValue81
  t72 := Tryz.underlying84
  a72 := Tryz.isAgg84
  z72 := Tryz.sizeOf84
  v72 := Tryz.zeroValue84
  t75 := Tryz.underlying89
  a75 := Tryz.isAgg89
  z75 := Tryz.sizeOf89
  v75 := Tryz.zeroValue89
  t76 := Tryz.underlying90
  a76 := Tryz.isAgg90
  z76 := Tryz.sizeOf90
  v76 := Tryz.zeroValue90
  t109 := Tryz.underlying300
  a109 := Tryz.isAgg300
  z109 := Tryz.sizeOf300
  v109 := Tryz.zeroValue300
  t127 := Tryz.underlying129
  a127 := Tryz.isAgg129
  z127 := Tryz.sizeOf129
  v127 := Tryz.zeroValue129
  t146 := Tryz.underlying322
  a146 := Tryz.isAgg322
  z146 := Tryz.sizeOf322
  v146 := Tryz.zeroValue322
  t148 := Tryz.underlying486
  a148 := Tryz.isAgg486
  z148 := Tryz.sizeOf486
  v148 := Tryz.zeroValue486
  t164 := Tryz.underlying183
  a164 := Tryz.isAgg183
  z164 := Tryz.sizeOf183
  v164 := Tryz.zeroValue183 }
theorem Tryz.Builder_Extra_105 : Builder.Extra Tryz.prog Tryz.lays105_ren := {
  sizeBuilder := by kernel_rfl
  liesBuilder := by kernel_rfl
  t5 := Tryz.underlying5
  a5 := Tryz.isAgg5
  z5 := Tryz.sizeOf5
  v5 := Tryz.zeroValue5
  infoByte := by kernel_rfl
  cellsByte := by kernel_rfl
  sizeByte := by kernel_rfl
  neB5 := by decide }
theorem repC : Ev.RepC Tryz.prog 100 := fun s c w hc hlen => Any.strings_Repeat Tryz.lays105 Tryz.Builder_Extra_105 s c w hc hlen
end Go.Proofs.YthdjicolicokcaaGreatDoor
namespace Go.Proofs.YthdjicolicokcaaGreatDoor.Ev
open Go Go.RowKit Go.Proofs
theorem mixed : Tryz.prog.follows .mixedOrders = true := by kernel_rfl
def badL : List Nat := [241]
theorem draws : drawsAll Tryz.prog badL = true := by kernel_rfl
noncomputable def hk0 (cl : Cl) : Cl := hookR 100 (hookC 577 cl)
theorem hk0_ok (cl : Cl) (h : ClOk Tryz.prog cl) : ClOk Tryz.prog (hk0 cl) := hookR_ok repC _ (hookC_ok crcC _ h)
theorem clOk0 (n : Nat) : ClOk Tryz.prog (xCl Tryz.prog badL hk0 20000 n) := xCl_ok (draws_of draws) hk0_ok mixed n
theorem disk_run : diskChk 1000 64 9 187 0 2000 (xCl Tryz.prog badL hk0 20000 120 false 68 [.int .i64 (.ofNat 1000)] start) = true := by kernel_rfl
noncomputable def hk (cl : Cl) : Cl := hookD 68 1000 64 9 187 (hk0 cl)
theorem hk_ok (cl : Cl) (h : ClOk Tryz.prog cl) : ClOk Tryz.prog (hk cl) := hookD_ok (clOk0 120) disk_run _ (hk0_ok cl h)
theorem clOk (n : Nat) : ClOk Tryz.prog (xCl Tryz.prog badL hk 20000 n) := xCl_ok (draws_of draws) hk_ok mixed n
theorem live_run : isTrue (xCl Tryz.prog badL hk 20000 120 false 5 [] start) = true := by kernel_rfl
theorem live_any (w : World) : Calls Tryz.prog 5 #[] w (TrueBelow w) :=
  (run_true (clOk 120) live_run (us := #[]) ⟨rfl, fun i x y hx hy => by simp at hx⟩).mono fun e w' h => h
end Go.Proofs.YthdjicolicokcaaGreatDoor.Ev
namespace Go.Proofs.YthdjicolicokcaaGreatDoor
open Go Go.RowKit Go.Shelf
structure Only (b : Nat) (w w' : World) : Prop where
  os : w'.os = w.os
  tape : w'.tape = w.tape
  output : w'.output = w.output
  size : w'.heap.size = w.heap.size
  block : ∀ k, k ≠ b → w'.heap[k]? = w.heap[k]?
theorem Only.refl (b : Nat) (w : World) : Only b w w := ⟨rfl, rfl, rfl, rfl, fun _ _ => rfl⟩
theorem Only.setCell {b : Nat} {a w : World} (h : Only b a w) (i : Nat) (u : Value) : Only b a (w.setCell ⟨b, i, none⟩ u) :=
  ⟨h.os, h.tape, h.output, by simp [World.setCell, h.size], fun k hk => (Below.heap_setCell _ _ _ _ hk).trans (h.block k hk)⟩
def BZ (b : Nat) (w : World) : Prop := ∃ p, w.heap[b]? = some (.cells #[p, .slice none 0 0] 84 (0, 0)) ∧ (p = .pointer none ∨ p = .pointer (some ⟨b, 0, none⟩))
theorem two_cells {W : World} {b : Nat} {x y : Value} {t : TypeId} (h : W.heap[b]? = some (.cells #[x, y] t (0, 0))) :
    W.cell? ⟨b, 0, none⟩ = some x ∧ W.cell? ⟨b, 1, none⟩ = some y ∧ W.frozen? ⟨b, 0, none⟩ = false ∧ W.frozen? ⟨b, 1, none⟩ = false ∧ W.shape? b = some (t, 2) := by
  refine ⟨?_, ?_, ?_, ?_, ?_⟩ <;> simp [World.cell?, World.frozen?, World.shape?, h]
theorem two_set0 {W : World} {b : Nat} {x y : Value} {t : TypeId} (v : Value) (h : W.heap[b]? = some (.cells #[x, y] t (0, 0))) : (W.setCell ⟨b, 0, none⟩ v).heap[b]? = some (.cells #[v, y] t (0, 0)) := by
  simp [World.setCell, Array.getElem?_modify, h]
theorem two_set1 {W : World} {b : Nat} {x y : Value} {t : TypeId} (v : Value) (h : W.heap[b]? = some (.cells #[x, y] t (0, 0))) : (W.setCell ⟨b, 1, none⟩ v).heap[b]? = some (.cells #[x, v] t (0, 0)) := by
  simp [World.setCell, Array.getElem?_modify, h]
theorem copy_fresh (b : Nat) (w : World) (h0 : w.cell? ⟨b, 0, none⟩ = some (.pointer none)) (hsh : w.shape? b = some (84, 2)) (hfz : w.frozen? ⟨b, 0, none⟩ = false) :
    Calls Tryz.prog 66 #[.pointer (some ⟨b, 0, none⟩)] w fun e w' => e = .returned (.tuple #[]) ∧ w' = w.setCell ⟨b, 0, none⟩ (.pointer (some ⟨b, 0, none⟩)) :=
  Go.Proofs.Any.Builder_copyCheck_fresh { Tryz.lays105 with } Tryz.Builder_Extra_105.toX72 b w h0 hsh hfz
theorem copy_used (b : Nat) (w : World) (h0 : w.cell? ⟨b, 0, none⟩ = some (.pointer (some ⟨b, 0, none⟩))) :
    Calls Tryz.prog 66 #[.pointer (some ⟨b, 0, none⟩)] w fun e w' => e = .returned (.tuple #[]) ∧ w' = w :=
  Go.Proofs.Any.Builder_copyCheck_used { Tryz.lays105 with } Tryz.Builder_Extra_105.toX72 b w h0
set_option maxRecDepth 100000 in
set_option maxHeartbeats 1000000 in
theorem write_none (b : Nat) (w : World) (h : BZ b w) : Calls Tryz.prog 38 #[.pointer (some ⟨b, 0, none⟩), .string ⟨#[]⟩] w fun e w' => (∃ v, e = .returned v) ∧ BZ b w' ∧ Only b w w' := by
  obtain ⟨p, hb, rfl | rfl⟩ := h
  · obtain ⟨c0, c1, f0, f1, sh⟩ := two_cells hb
    have hb2 := two_set0 (.pointer (some ⟨b, 0, none⟩)) hb
    have hb3 := two_set1 (.slice none 0 0) hb2
    go_enter Tryz.func38, Tryz.ntmps38
    go_wp2_with (go_at_call 66; refine (copy_fresh b _ c0 sh f0).mono ?_; rintro e w' ⟨rfl, rfl⟩)
    go_ret2
    exact ⟨⟨_, rfl⟩, ⟨_, hb3, .inr rfl⟩, ((Only.refl b w).setCell 0 _).setCell 1 _⟩
  · obtain ⟨c0, c1, f0, f1, sh⟩ := two_cells hb
    have hb3 := two_set1 (.slice none 0 0) hb
    go_enter Tryz.func38, Tryz.ntmps38
    go_wp2_with (go_at_call 66; refine (copy_used b _ c0).mono ?_; rintro e w' ⟨rfl, rfl⟩)
    go_ret2
    exact ⟨⟨_, rfl⟩, ⟨_, hb3, .inr rfl⟩, (Only.refl b _).setCell 1 _⟩
set_option maxRecDepth 100000 in
set_option maxHeartbeats 1000000 in
theorem line_none (t : ByteArray) (w : World) : Calls Tryz.prog 13 #[.pointer none, .string t] w fun e w' => e = .returned (.string ⟨#[]⟩) ∧ w' = w := by
  go_enter Tryz.func13, Tryz.ntmps13
  go_wp2
  go_ret
  exact ⟨rfl, rfl⟩
set_option maxRecDepth 100000 in
set_option maxHeartbeats 1000000 in
theorem world_none (w : World) : Calls Tryz.prog 15 #[.pointer none] w fun e w' => e = .returned (.pointer none) ∧ w' = w := by
  go_enter Tryz.func15, Tryz.ntmps15
  go_wp2
  go_ret
  exact ⟨rfl, rfl⟩
def SufP (s : ByteArray) (e : Ending) : Prop := ∃ b, e = .returned (.bool b) ∧ (b = true → 1 ≤ s.size)
def TextP (e : Ending) : Prop := ∃ t, e = .returned (.string t)
set_option maxRecDepth 100000 in
set_option maxHeartbeats 1000000 in
theorem hasSuffix_any (s : ByteArray) (w : World) (hs : s.size ≤ 2000) : Calls Tryz.prog 99 #[.string s, .string ⟨#[10]⟩] w fun e w' => SufP s e ∧ w' = w := by
  by_cases h1 : 1 ≤ s.size
  · go_enter Tryz.func99, Tryz.ntmps99
    go_wp2
    all_goals
      go_ret
      exact ⟨⟨_, rfl, fun _ => h1⟩, rfl⟩
  · go_enter Tryz.func99, Tryz.ntmps99
    go_wp2
    all_goals
      go_ret
      exact ⟨⟨_, rfl, fun h => by simp at h⟩, rfl⟩
set_option maxRecDepth 100000 in
set_option maxHeartbeats 1000000 in
theorem ltrim_any (s : ByteArray) (w : World) (hs : s.size ≤ 2000) : Calls Tryz.prog 67 #[.string s, .string ⟨#[10]⟩] w fun e w' => TextP e ∧ w' = w := by
  by_cases h1 : 1 ≤ s.size
  · go_enter Tryz.func67, Tryz.ntmps67
    go_wp2_with (go_at_call 99; refine (hasSuffix_any _ _ hs).mono ?_; rintro e w' ⟨⟨b, rfl, hb⟩, rfl⟩; clear hb)
    all_goals
      go_ret
      exact ⟨⟨_, rfl⟩, rfl⟩
  · go_enter Tryz.func67, Tryz.ntmps67
    go_wp2_with (go_at_call 99; refine (hasSuffix_any _ _ hs).mono ?_; rintro e w' ⟨⟨b, rfl, hb⟩, rfl⟩; obtain rfl : b = false := Bool.eq_false_iff.2 (fun h => h1 (hb h)))
    go_ret
    exact ⟨⟨_, rfl⟩, rfl⟩
set_option maxRecDepth 100000 in
set_option maxHeartbeats 1000000 in
theorem trim_any (s : ByteArray) (w : World) (hs : s.size ≤ 2000) : Calls Tryz.prog 39 #[.string s, .string ⟨#[10]⟩] w fun e w' => TextP e ∧ w' = w := by
  go_enter Tryz.func39, Tryz.ntmps39
  go_wp2_with (go_at_call 67; refine (ltrim_any _ _ hs).mono ?_; rintro e w' ⟨⟨b, rfl⟩, rfl⟩)
  go_ret
  exact ⟨⟨_, rfl⟩, rfl⟩
set_option maxRecDepth 100000 in
set_option maxHeartbeats 1000000 in
theorem lines_any (s : ByteArray) (w : World) : Calls Tryz.prog 37 #[.string s] w fun e w' => e = .returned (.func (.func 64) #[] #[.pointer (some ⟨w.heap.size, 0, none⟩)]) ∧ w' = w.alloc (.cells #[.string s] 9) := by
  go_enter Tryz.func37, Tryz.ntmps37
  go_wp2
  go_ret
  exact ⟨rfl, rfl⟩
theorem string_none (b : Nat) (w : World) (h : BZ b w) : Calls Tryz.prog 40 #[.pointer (some ⟨b, 0, none⟩)] w fun e w' => e = .returned (.string ⟨#[]⟩) ∧ Below w.heap.size w w' := by
  obtain ⟨p, hb, _⟩ := h
  exact Go.Proofs.Any.Builder_String_nil { Tryz.lays105 with } Tryz.Builder_Extra_105 w.heap.size b p w hb
attribute [local go_sem] Oper.semAt_some
set_option maxRecDepth 100000 in
set_option maxHeartbeats 2000000 in
theorem text_none (s : ByteArray) (w : World) (hs : s.size ≤ 2000) : Calls Tryz.prog 14 #[.pointer none, .string s] w fun e w' => e = .returned (.string ⟨#[]⟩) ∧ Below w.heap.size w w' := by
  refine (callsIn_wide (n := 3)).1 ?_
  refine callsIn_of_wp_marks Tryz.func14 rfl trivial ?_ rfl
  simp only [Tryz.ntmps14, List.size_toArray, List.length_cons, List.length_nil, Nat.reduceAdd, Nat.reduceSub, Array.replicate_succ, Array.replicate_zero, List.push_toArray, List.append_toArray, List.nil_append, List.cons_append]
  gi_wp2_with (gi_at_call 37; refine (callsIn_wide.2 (lines_any _ _)).mono ?_; rintro e w' ⟨rfl, rfl⟩)
  obtain ⟨W0, hW0⟩ : ∃ W0, ((w.alloc (.cells #[.pointer none] 34)).alloc (.cells #[.pointer none, .slice none 0 0] 84)).alloc (.cells #[.string s] 9) = W0 := ⟨_, rfl⟩
  have hs0 : W0.heap.size = w.heap.size + 3 := by rw [← hW0]; simp
  have hD0 : W0.heap[w.heap.size]? = some (.cells #[.pointer none] 34 (0, 0)) := by
    rw [← hW0]; exact ((Below.heap_alloc _ _ _ (by simp; omega)).trans (Below.heap_alloc _ _ _ (by simp))).trans (World.alloc_heap_new w _)
  have hZ0 : W0.heap[w.heap.size + 1]? = some (.cells #[.pointer none, .slice none 0 0] 84 (0, 0)) := by
    rw [← hW0]; refine (Below.heap_alloc _ _ _ (by simp)).trans ?_
    have := World.alloc_heap_new (w.alloc (.cells #[.pointer none] 34)) (.cells #[.pointer none, .slice none 0 0] 84); rwa [World.size_alloc] at this
  have hS0 : W0.heap[w.heap.size + 1 + 1]? = some (.cells #[.string s] 9 (0, 0)) := by
    rw [← hW0]; have := World.alloc_heap_new ((w.alloc (.cells #[.pointer none] 34)).alloc (.cells #[.pointer none, .slice none 0 0] 84)) (.cells #[.string s] 9); rwa [World.size_alloc, World.size_alloc] at this
  have hBW : Below w.heap.size w W0 := by rw [← hW0]; exact (((Below.refl _ w).alloc (Nat.le_refl _) _).alloc (by simp) _).alloc (by simp; omega) _
  rw [hW0]
  refine wpIn_range_box (F := Fence.wide) (n := 3) rfl (by omega) (gf := 64) (lb := #[.pointer (some ⟨w.heap.size + 1 + 1, 0, none⟩)]) rfl trivial (enters_of Tryz.func64 (by kernel_rfl) rfl)
    (b := w.heap.size + 1 + 1) (by omega) rfl (fun x => x.size ≤ 2000)
    (fun W => W.heap[w.heap.size]? = some (.cells #[.pointer none] 34 (0, 0)) ∧ BZ (w.heap.size + 1) W ∧ Below w.heap.size w W) ?hI ⟨hD0, ⟨_, hZ0, .inl rfl⟩, hBW⟩
    (fun x => { tmps := #[.pointer none, .string s, .pointer (some ⟨w.heap.size, 0, none⟩), undef, .string ⟨#[]⟩, .pointer (some ⟨w.heap.size + 1, 0, none⟩), .string x, .string s, .func (.func 64) #[] #[.pointer (some ⟨w.heap.size + 1 + 1, 0, none⟩)], .string x, undef, undef, undef, undef, undef, undef], defers := [] }) ?iter ?assign ?body ?done
  case hI =>
    rintro W W' ⟨hd, ⟨p, hz, hp⟩, hB⟩ hA
    exact ⟨(hA.block _ (by omega) (by omega)).trans hd, ⟨p, (hA.block _ (by omega) (by omega)).trans hz, hp⟩, hB.trans ⟨hA.os, hA.tape, hA.output, hA.size, fun k hk => hA.block k (by omega) (by omega)⟩⟩
  case iter =>
    intro l B J W hWb hbB hBW hJ hY hJW
    exact lines_iter 1 l B _ J W s (hWb.trans hS0) hs hJ hY hJW
  case assign =>
    intro l x W K hK
    gi_wp2
    exact hK
  case body =>
    rintro l x W hx ⟨hd, hz, hB⟩ hsz
    obtain ⟨hdc, hdf⟩ := box_cell hd
    have hmx : Tryz.prog.follows .mixedOrders = true := by kernel_rfl
    gi_wp2
    gi_region_with_o (first
      | (gi_at_call 39; refine (CallsIn.inRound l (callsIn_wide.2 (trim_any _ _ hx))).mono ?_; rintro e w' ⟨⟨t, rfl⟩, rfl⟩)
      | (gi_at_call 13; refine (CallsIn.inRound l (callsIn_wide.2 (line_none _ _))).mono ?_; rintro e w' ⟨rfl, rfl⟩)
      | (gi_at_call 38; refine (CallsIn.inRound l (callsIn_wide.2 (write_none _ _ (show BZ _ W.drew from hz)))).mono ?_; rintro e w' ⟨⟨v, rfl⟩, hz', ho⟩))
    all_goals gi_wp2
    all_goals exact ⟨rfl, ⟨(ho.block _ (by omega)).trans hd, hz', hB.trans ⟨ho.os, ho.tape, ho.output, Nat.le_of_eq ho.size.symm, fun k hk => ho.block k (by omega)⟩⟩, Nat.le_of_eq ho.size.symm, fun k hk _ => ho.block k (by omega)⟩
  case done =>
    rintro W ⟨hd, hz, hB⟩ hsz hK
    gi_wp2_with (gi_at_call 40; refine (callsIn_wide.2 (string_none _ _ hz)).mono ?_; rintro e w' ⟨rfl, hb⟩)
    have hK' : w'.heap[w.heap.size + 3]? = some (.deferred (some [])) := (hb.block _ (by omega)).trans (by rw [← hs0]; exact hK)
    refine ⟨by simp, .inl ⟨_, _, rfl, run_takeDeferred hK', ?_⟩⟩
    refine ⟨_, results_tmp rfl _ _ _, by simp, ?_⟩
    exact (hB.trans (hb.mono hB.size)).trans ⟨rfl, rfl, rfl, by simp, fun k hk => World.putObj_heap_other (by omega)⟩
end Go.Proofs.YthdjicolicokcaaGreatDoor
namespace Go.Proofs.YthdjicolicokcaaGreatDoor
open Go Go.RowKit
theorem lit161 (A : Array Value) (h : A.size = 161) : ∃ g : Nat → Value, A = #[g 0, g 1, g 2, g 3, g 4, g 5, g 6, g 7, g 8, g 9, g 10, g 11, g 12, g 13, g 14, g 15, g 16, g 17, g 18, g 19, g 20, g 21, g 22, g 23, g 24, g 25, g 26, g 27, g 28, g 29, g 30, g 31, g 32, g 33, g 34, g 35, g 36, g 37, g 38, g 39, g 40, g 41, g 42, g 43, g 44, g 45, g 46, g 47, g 48, g 49, g 50, g 51, g 52, g 53, g 54, g 55, g 56, g 57, g 58, g 59, g 60, g 61, g 62, g 63, g 64, g 65, g 66, g 67, g 68, g 69, g 70, g 71, g 72, g 73, g 74, g 75, g 76, g 77, g 78, g 79, g 80, g 81, g 82, g 83, g 84, g 85, g 86, g 87, g 88, g 89, g 90, g 91, g 92, g 93, g 94, g 95, g 96, g 97, g 98, g 99, g 100, g 101, g 102, g 103, g 104, g 105, g 106, g 107, g 108, g 109, g 110, g 111, g 112, g 113, g 114, g 115, g 116, g 117, g 118, g 119, g 120, g 121, g 122, g 123, g 124, g 125, g 126, g 127, g 128, g 129, g 130, g 131, g 132, g 133, g 134, g 135, g 136, g 137, g 138, g 139, g 140, g 141, g 142, g 143, g 144, g 145, g 146, g 147, g 148, g 149, g 150, g 151, g 152, g 153, g 154, g 155, g 156, g 157, g 158, g 159, g 160] ∧ ∀ i v, A[i]? = some v → g i = v := by
  refine ⟨fun i => A[i]?.getD undef, ?_, fun i v hv => by simp only [hv, Option.getD_some]⟩
  have : A = ((List.range 161).map (fun i => A[i]?.getD undef)).toArray := by
    refine Array.ext (by simp [h]) fun i h1 h2 => ?_
    simp [h1]
  exact this.trans rfl
set_option maxRecDepth 100000 in
set_option maxHeartbeats 4000000 in
theorem nil_any (s : ByteArray) (w : World) : Calls Tryz.prog 4 #[.string s] w fun e w' => e = .returned (.bool true) ∧ Below w.heap.size w w' := by
  refine Ev.calls_regs (Ev.clOk0 120) Ev.mixed (k := 5) (vs := [.string s]) (c := Ev.bodyOf Tryz.prog 4) Tryz.func4 (by kernel_rfl) (by kernel_rfl) (by kernel_rfl) (Nat.le_of_ble_eq_true (by kernel_rfl)) ⟨rfl, fun i x y hx hy => by
    rw [hx] at hy
    obtain rfl := Option.some.inj hy
    exact Ev.flat_vr (List.all_eq_true.1 (show ([Value.string s].all Ev.flat) = true from rfl) x (by simpa using Array.mem_of_getElem? hx))⟩ (by kernel_rfl) fun a w1 hb hsz hdf hsl => ?_
  have h0 := hsl 0 (.string s) (by kernel_rfl) rfl
  have h3 := hsl 3 (.pointer none) (by kernel_rfl) rfl
  have h6 := hsl 6 (.bool true) (by kernel_rfl) rfl
  have h7 := hsl 7 (.bool true) (by kernel_rfl) rfl
  clear hsl
  obtain ⟨T, D⟩ := a
  obtain ⟨g, hT, hg⟩ := lit161 T hsz
  replace h0 := hg _ _ h0
  replace h3 := hg _ _ h3
  replace h6 := hg _ _ h6
  replace h7 := hg _ _ h7
  subst hT
  obtain rfl : D = [] := hdf
  clear hg hsz
  rw [h0, h3, h6, h7]
  clear h0 h3 h6 h7
  unfold Ev.bodyOf
  rw [Tryz.func4]
  simp only [Tryz.f4, Ev.rest, Ev.sndC]
  have HB := Lib.hid hb; clear hb
  by_cases hs : 2000 < s.size
  · go_wp2_with (first
      | (go_at_call 15; refine (world_none _).mono ?_; rintro e w' ⟨rfl, rfl⟩)
      | (go_at_call 5; refine (Ev.live_any _).mono ?_; rintro e w' ⟨rfl, hb2⟩))
    go_ret
    exact ⟨rfl, HB.out.trans (hb2.mono HB.out.size)⟩
  · have hs2 : s.size ≤ 2000 := by omega
    have HS := Lib.hid hs2; clear hs2
    go_wp2_with (first
      | (go_at_call 15; refine (world_none _).mono ?_; rintro e w' ⟨rfl, rfl⟩)
      | (go_at_call 13; refine (line_none _ _).mono ?_; rintro e w' ⟨rfl, rfl⟩)
      | (go_at_call 14; refine (text_none _ _ HS.out).mono ?_; rintro e w' ⟨rfl, hb1⟩)
      | (go_at_call 5; refine (Ev.live_any _).mono ?_; rintro e w' ⟨rfl, hb2⟩))
    go_ret
    exact ⟨rfl, (HB.out.trans (hb1.mono HB.out.size)).trans (hb2.mono (HB.out.trans (hb1.mono HB.out.size)).size)⟩
end Go.Proofs.YthdjicolicokcaaGreatDoor
