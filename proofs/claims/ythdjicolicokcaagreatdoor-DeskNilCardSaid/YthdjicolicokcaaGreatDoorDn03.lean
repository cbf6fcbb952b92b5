/-
  An evaluator for closed runs: the operations (16: what the library's Builder asks: places seen without their type, bytes that are a string, rows of whatever bytes; copies).
  An evaluator for closed runs: the operations (17: strings over bytes; rows of whatever bytes; copies; slices of arrays).
  An evaluator for closed runs: the interpreter (1: what a run comes to, slots, and how it goes on).
  An evaluator for closed runs: the interpreter (2: the operations).
-/
import Derived.Test.YthdjicolicokcaaGreatDoorDn02
import Derived.Lib.Builder
import Derived.Lib.UnsafeStr
import Derived.Lib.MakeNoZero
import Derived.Laws.Externs
import Derived.Laws.BytesString
import Derived.KernelRfl
namespace Go.Proofs.YthdjicolicokcaaGreatDoor.Ev
open Go
noncomputable def bytesS (v : Value) (r : Option (List UInt8)) : Option (List UInt8) := match v with
  | .int .u8 (.ofNat n) => match Nat.ble n 255 with
    | true => Option.rec (motive := fun _ => Option (List UInt8)) none (fun l => some (UInt8.ofNat n :: l)) r
    | false => none
  | _ => none
noncomputable def bytesV (vs : List Value) : Option (List UInt8) := List.rec (motive := fun _ => Option (List UInt8)) (some []) (fun v _ ih => bytesS v ih) vs
theorem bytesV_is : ∀ {vs : List Value} {l : List UInt8}, bytesV vs = some l → vs = l.map fun x => .int .u8 x.toNat
  | [], l, h => by
    obtain rfl := Option.some.inj (show some [] = some l from h)
    rfl
  | v :: vs, l, h => by
    change bytesS v (bytesV vs) = some l at h
    unfold bytesS at h
    split at h
    · rename_i n
      split at h
      · rename_i hn
        have hn := Nat.le_of_ble_eq_true hn
        rcases hb : bytesV vs with _ | r
        · rw [hb] at h
          cases h
        · rw [hb] at h
          obtain rfl := Option.some.inj (show some (UInt8.ofNat n :: r) = some l from h)
          rw [bytesV_is hb, List.map_cons]
          congr 2
          have : (UInt8.ofNat n).toNat = n := by
            rw [UInt8.toNat_ofNat']
            exact Nat.mod_eq_of_lt (by omega)
          rw [this]
          rfl
      · cases h
    · cases h
theorem rowAt_mono (P : Program) (fits : TypeId → Bool) : ∀ (d : Nat) (e : TypeId) (c c' off n : Nat), c ≤ c' → rowAt P fits d e c off n = true → rowAt P fits d e c' off n = true
  | 0, _, _, _, _, _, _, h => h
  | d + 1, e, c, c', off, n, hc, h => by
    unfold rowAt at h ⊢
    by_cases hs : P.cellsOf e = 0
    · simp [hs] at h
    · simp only [hs, if_false] at h ⊢
      rw [Bool.or_eq_true] at h ⊢
      rcases h with h | h
      · refine .inl ?_
        simp only [Bool.and_eq_true, decide_eq_true_iff] at h ⊢
        exact ⟨⟨h.1.1, by omega⟩, h.2⟩
      · refine .inr ?_
        simp only [Bool.and_eq_true, decide_eq_true_iff] at h ⊢
        exact ⟨by omega, h.2⟩
theorem liesAt_mono (P : Program) : ∀ (d : Nat) (e : TypeId) (c c' off : Nat) (u : TypeId) (n : Nat), c ≤ c' → liesAt P d e c off u n = true → liesAt P d e c' off u n = true
  | 0, _, _, _, _, _, _, _, h => h
  | d + 1, e, c, c', off, u, n, hc, h => by
    unfold liesAt at h ⊢
    rw [Bool.or_eq_true] at h ⊢
    rcases h with h | h
    · exact .inl (rowAt_mono P _ _ e c c' off n hc h)
    · refine .inr ?_
      split at h
      · exact liesAt_mono P d e c c' off _ _ hc h
      · cases h
theorem lies_bytes {P : Program} {e : TypeId} (hc : P.cellsOf e = 1) (count off n : Nat) (hn : off + n ≤ count) : liesAt P P.depth e count off e n = true := by
  have hd : P.depth = (2 * (P.types.size + Made.depth) + 1) + 1 := rfl
  rw [hd]
  simp only [liesAt, Bool.or_eq_true]
  left
  rw [hd]
  simp [rowAt, hc, hn, sameLayout, Nat.mod_one]
theorem shape_cells {w : World} {b : Nat} {cs : Array Value} {e : TypeId} {fr : Nat × Nat} (h : w.heap[b]? = some (.cells cs e fr)) : w.shape? b = some (e, cs.size) := by simp [World.shape?, h]
section
variable {P : Program} {o : Oper} {f : T Value} {s s' : St} {v : Value}
theorem conv_run {a b : TypeId} {x : Operand} (ho : o.op = .convert a b x) (ev : Operand → Value) : execOp ev o = (do pure (.value (← convert a b (ev x)))) := by unfold execOp; rw [ho]
theorem toUnsafe_ok {a b t : TypeId} {x : Operand} {j : TypeInfo} {n k m sz fz : Nat} {tr : T Value} {e : TypeId} (ho : o.op = .convert a b x) (hs : P.underlying a = some (.pointer t)) (hd : P.underlying b = some .unsafePointer) (ht : P.info? t = some j) (hj : j.size ≠ 0) (hx : evO f x = some (.pointer (some ⟨n, k, none⟩))) (hn : s.h.get n = some (.cells tr m e sz fz)) (hk : k < m) :
    QOk P o f s (.pointer (some ⟨n, k, none⟩)) := by
  refine qOk_of (sem := fun ev => convert a b (ev x)) (conv_run ho) (fun ρ w c hr hf => ?_)
  have hp := evO_sound hf hx
  obtain ⟨u, hu2⟩ : ∃ u, c.eval x = u := ⟨_, rfl⟩
  rw [hu2] at hp
  cases hp
  rename_i hlt
  obtain ⟨_, cs, fr, _, h1, h2, _, _⟩ := hr.obj n _ hn
  refine ⟨.pointer (some ((ρ n).at k)), ?_, .ptr n k hlt⟩
  rw [hu2]
  exact Lib.run_to_unsafe w ((ρ n).at k) hs hd ht hj (shape_cells (b := ((ρ n).at k).block) h1) (by show (ρ n).s + k < cs.size; omega)
theorem fromUnsafe_ok {a b t : TypeId} {x : Operand} {j : TypeInfo} {n k m fz : Nat} {tr : T Value} {e : TypeId} (ho : o.op = .convert a b x) (hs : P.underlying a = some .unsafePointer) (hd : P.underlying b = some (.pointer t)) (ht : P.info? t = some j) (hx : evO f x = some (.pointer (some ⟨n, k, none⟩))) (hn : s.h.get n = some (.cells tr m e 0 fz)) (hl : liesAt P P.depth e (m / P.cellsOf e) k t 1 = true) :
    QOk P o f s (.pointer (some ⟨n, k, none⟩)) := by
  refine qOk_of (sem := fun ev => convert a b (ev x)) (conv_run ho) (fun ρ w c hr hf => ?_)
  have hp := evO_sound hf hx
  obtain ⟨u, hu2⟩ : ∃ u, c.eval x = u := ⟨_, rfl⟩
  rw [hu2] at hp
  cases hp
  rename_i hlt
  obtain ⟨_, cs, fr, hs0, h1, h2, _, _⟩ := hr.obj n _ hn
  have h0 := hs0 rfl
  refine ⟨.pointer (some ((ρ n).at k)), ?_, .ptr n k hlt⟩
  rw [hu2]
  refine Lib.run_from_unsafe w ((ρ n).at k) hs hd ht (shape_cells (b := ((ρ n).at k).block) h1) ?_
  show liesAt P P.depth e (cs.size / P.cellsOf e) ((ρ n).s + k) t 1 = true
  rw [h0, Nat.zero_add]
  exact liesAt_mono P _ e _ _ _ _ _ (Nat.div_le_div_right (by omega)) hl
theorem bytes_read {ρ : Nat → Nm} {w : World} (hr : SR ρ s w) {n k m sz fz l : Nat} {tr : T Value} {e : TypeId} {vs : List Value} {bs : List UInt8} (hn : s.h.get n = some (.cells tr m e sz fz)) (hk : k + l ≤ m) (hv : readF tr k l = some vs) (hb : bytesV vs = some bs) :
    bs.length = l ∧ (∀ (j : Nat) (x : UInt8), bs[j]? = some x → w.cell? (((ρ n).at k).add j) = some (.int .u8 x.toNat)) := by
  obtain ⟨us, h1, h2, h3⟩ := readF_sound hr hn l k vs hk hv
  have e1 := bytesV_is hb
  have hl : vs.length = l := (readF_get _ _ _ _ hv).1
  refine ⟨by rw [e1, List.length_map] at hl; exact hl, fun j x hx => ?_⟩
  have h4 : vs.toArray[j]? = some (.int .u8 x.toNat) := by
    rw [e1]
    simp [hx]
  obtain ⟨u, hu, hvu⟩ := h3.at h4
  have : u = .int .u8 x.toNat := by cases hvu; rfl
  subst this
  exact h2 j _ (by simpa using hu)
theorem push_bytes : ∀ (bs : List UInt8) (r : ByteArray), (bs.map fun x => (x.toNat : Int)).foldl (fun r n => r.push (UInt8.ofNat n.toNat)) r = ⟨r.data ++ bs.toArray⟩
  | [], r => by
    apply ByteArray.ext
    simp
  | x :: bs, r => by
    rw [List.map_cons, List.foldl_cons, push_bytes bs]
    apply ByteArray.ext
    simp [ByteArray.push]
theorem bytesStr_ok {a b t : TypeId} {x : Operand} {n k m sz fz l cp : Nat} {sp : Option Nat} {tr : T Value} {e : TypeId} {vs : List Value} {bs : List UInt8} (ho : o.op = .convert a b x) (hs : P.underlying a = some (.slice t)) (hd : P.underlying b = some .string) (ht : P.underlying t = some (.int .u8)) (hx : evO f x = some (.slice (some ⟨n, k, sp⟩) l cp)) (hsp : sp = none ∨ sp = some 0) (hn : s.h.get n = some (.cells tr m e sz fz)) (hk : k + l ≤ m) (hv : readF tr k l = some vs) (hb : bytesV vs = some bs) :
    QOk P o f s (.string ⟨bs.toArray⟩) := by
  refine qOk_of (sem := fun ev => convert a b (ev x)) (conv_run ho) (fun ρ w c hr hf => ?_)
  have hp := evO_sound hf hx
  obtain ⟨u, hu2⟩ : ∃ u, c.eval x = u := ⟨_, rfl⟩
  rw [hu2] at hp
  obtain ⟨hl, hc⟩ := bytes_read hr hn hk hv hb
  have hrun : ∀ c', (convert a b (.slice (some ((ρ n).at k)) l c')).run P w = .ok (.string ⟨bs.toArray⟩) w := fun c' => by
    have h1 : (convert a b (.slice (some ((ρ n).at k)) l c')).run P w = (Conv.bytesToString (.slice (some ((ρ n).at k)) l c')).run P w := by
      simp only [convert, Sem.run_bind, run_und hs, run_und hd, run_und ht, Result.andThen_ok]
    rw [h1]
    have h2 : (loadCells ((ρ n).at k) l).run P w = .ok ((bs.map fun x => (x.toNat : Int)).map (Value.int .u8)).toArray w := by
      have := run_loadCells_list (P := P) w ((ρ n).at k) (bs.map fun x => Value.int .u8 x.toNat) (fun j u hu => by
        rw [List.getElem?_map] at hu
        rcases hx : bs[j]? with _ | y
        · rw [hx] at hu
          cases hu
        · rw [hx] at hu
          obtain rfl := Option.some.inj hu
          exact hc j y hx)
      rw [List.length_map, hl] at this
      rw [this, List.map_map]
      rfl
    rw [run_bytesToString w _ l c' _ h2, push_bytes]
    simp
  refine ⟨.string ⟨bs.toArray⟩, ?_, .string _⟩
  rw [hu2]
  rcases hsp with rfl | rfl
  · cases hp
    exact hrun _
  · cases hp
    exact hrun _
theorem sliceData_ok {c : Call} {x : Operand} {n k l cp : Nat} (ho : o.op = .call c) (hc : c.callee = .builtin .unsafeSliceData) (ha : c.args = #[x]) (hx : evO f x = some (.slice (some ⟨n, k, none⟩) l (cp + 1))) : QOk P o f s (.pointer (some ⟨n, k, none⟩)) := by
  refine qOk_of (sem := fun ev => Builtin.unsafeSliceData_ c.argTypes o.type #[ev x]) (fun ev => ?_) (fun ρ w a hr hf => ?_)
  · rw [builtin_run ho hc ev, ha, map1 ev]
    rfl
  · have hp := evO_sound hf hx
    obtain ⟨u, hu2⟩ : ∃ u, a.eval x = u := ⟨_, rfl⟩
    rw [hu2] at hp
    cases hp
    rename_i hlt
    refine ⟨.pointer (some ((ρ n).at k)), ?_, .ptr n k hlt⟩
    rw [hu2]
    exact Lib.run_unsafeSliceData_row w _ _ _ _ _ (by omega)
end
end Go.Proofs.YthdjicolicokcaaGreatDoor.Ev
namespace Go.Proofs.YthdjicolicokcaaGreatDoor.Ev
open Go
section
variable {P : Program}
theorem run_unsafeString_at (w : World) {ats : Array TypeId} {pt ty e : TypeId} (ht : ats[0]? = some pt) (hp : P.underlying pt = some (.pointer e)) (hc : P.cellsOf e = 1) (a : Addr) (cells : Nat) (hsh : w.shape? a.block = some (e, cells)) (l : List UInt8) (h0 : l ≠ []) (hn : a.off + l.length ≤ cells) (h63 : l.length ≤ 9223372036854775807)
    (hcell : ∀ (j : Nat) (x : UInt8), l[j]? = some x → w.cell? (a.add j) = some (.int .u8 x.toNat)) :
    (Builtin.unsafeString_ ats ty #[.pointer (some a), .int .i64 l.length]).run P w = .ok (.string ⟨l.toArray⟩) (w.freeze a l.length) := by
  have hl : l.length ≠ 0 := by simpa using h0
  have hlb := Lib.run_loadBytes (P := P) w l a .empty hcell
  have hlies := lies_bytes (P := P) hc (cells / P.cellsOf e) a.off l.length (by rw [hc]; simpa using hn)
  have h63' : ¬ (9223372036854775807 : Int) < (l.length : Int) := by omega
  conv => lhs; arg 2; delta Builtin.unsafeString_; whnf
  have hmax : IntKind.i64.max = 9223372036854775807 := rfl
  have hneg : ¬ (l.length : Int) < 0 := by omega
  simp [ht, hmax, h63', hneg, hl, variablesAt, hsh, elemOf, run_underlying hp, hlies, hlb]
theorem freeze_at {w : World} {a : Addr} {n : Nat} {cs : Array Value} {e : TypeId} {fr : Nat × Nat} (h : w.heap[a.block]? = some (.cells cs e fr)) (hn : n ≠ 0) : (w.freeze a n).heap[a.block]? = some (.cells cs e (if fr.1 == fr.2 then (a.off, a.off + n) else (min fr.1 a.off, max fr.2 (a.off + n)))) := by
  unfold World.freeze
  rw [if_neg hn]
  simp only [Array.getElem?_modify, h]
  rfl
theorem freeze_not {w : World} {a : Addr} {n k : Nat} (h : k ≠ a.block) : (w.freeze a n).heap[k]? = w.heap[k]? := by
  unfold World.freeze
  split
  · rfl
  · simp only [Array.getElem?_modify]
    rw [if_neg (Ne.symm h)]
theorem freeze_size (w : World) (a : Addr) (n : Nat) : (w.freeze a n).heap.size = w.heap.size := by
  unfold World.freeze
  split
  · rfl
  · simp
theorem freeze_rest (w : World) (a : Addr) (n : Nat) : (w.freeze a n).os = w.os ∧ (w.freeze a n).tape = w.tape ∧ (w.freeze a n).output = w.output := by
  unfold World.freeze
  split <;> exact ⟨rfl, rfl, rfl⟩
theorem HR.freeze {ρ : Nat → Nm} {nx : Nat} {H : Nat → Option AO} {w : World} (h : HR ρ nx H w) {n k m sz fz l : Nat} {t : Go.Proofs.YthdjicolicokcaaGreatDoor.Ev.T Value} {e : TypeId} (hn : H n = some (.cells t m e sz fz)) (hl : l ≠ 0) :
    Step ρ nx H w ρ nx (updH H n (some (.cells t m e sz (max fz (k + l))))) (w.freeze ((ρ n).at k) l) := by
  obtain ⟨hnx, cs, fr, hs0, h1, h2, h3, h4⟩ := h.obj n _ hn
  have hat := freeze_at (a := (ρ n).at k) h1 hl
  obtain ⟨f1, f2, f3⟩ := freeze_rest w ((ρ n).at k) l
  refine ⟨Ext.refl _ _, ⟨fun q o' hq => ?_, fun q q' o1 o2 hq hq' he => ?_⟩, ⟨f1, f2, f3, Nat.le_of_eq (freeze_size _ _ _).symm, fun j _ hj => freeze_not (fun e => hj n _ hn e.symm)⟩, fun q o' hq => ?_⟩
  · rcases updH_get hq with ⟨rfl, e0⟩ | ⟨hne, hq⟩
    · obtain rfl := Option.some.inj e0
      refine ⟨hnx, cs, _, hs0, hat, h2, h3, ?_⟩
      by_cases hf : (fr.1 == fr.2) = true
      · rw [if_pos hf]
        show (ρ q).s + k + l ≤ _
        omega
      · rw [if_neg hf]
        show max fr.2 ((ρ q).s + k + l) ≤ _
        omega
    · have h5 := h.obj q _ hq
      refine ⟨h5.1, ?_⟩
      rw [freeze_not (fun e => hne (h.inj q n _ _ hq hn e))]
      exact h5.2
  · have back : ∀ {m' o'}, updH H n (some (.cells t m e sz (max fz (k + l)))) m' = some o' → ∃ o2, H m' = some o2 := fun {m' o'} hm => by
      rcases updH_get hm with ⟨rfl, _⟩ | ⟨_, hm⟩
      · exact ⟨_, hn⟩
      · exact ⟨_, hm⟩
    obtain ⟨p1, hp1⟩ := back hq
    obtain ⟨p2, hp2⟩ := back hq'
    exact h.inj _ _ _ _ hp1 hp2 he
  · rcases updH_get hq with ⟨rfl, _⟩ | ⟨_, hq⟩
    · exact .inr ⟨q, _, hn, rfl⟩
    · exact .inr ⟨q, _, hq, rfl⟩
end
section
variable {P : Program} {o : Oper} {f : T Value} {s s' : St} {v : Value}
theorem unsafeStr_ok {c : Call} {x y : Operand} {pt e : TypeId} {n k m sz fz l : Nat} {tr : T Value} {vs : List Value} {bs : List UInt8} (ho : o.op = .call c) (hc : c.callee = .builtin .unsafeString) (ha : c.args = #[x, y]) (ht : c.argTypes[0]? = some pt) (hp : P.underlying pt = some (.pointer e)) (h1 : P.cellsOf e = 1) (hx : evO f x = some (.pointer (some ⟨n, k, none⟩))) (hy : evO f y = some (.int .i64 (.ofNat l)))
    (hn : s.h.get n = some (.cells tr m e sz fz)) (h0 : l ≠ 0) (hl : l ≤ 1048576) (hk : k + l ≤ m) (hv : readF tr k l = some vs) (hb : bytesV vs = some bs) : ValOk P o f s (.string ⟨bs.toArray⟩) ⟨s.h.set (.cells tr m e sz (max fz (k + l))) n, s.nx⟩ := by
  refine valOk_of (sem := fun ev => Builtin.unsafeString_ c.argTypes o.type #[ev x, ev y]) (fun ev => ?_) (fun ρ w a hr hf => ?_)
  · rw [builtin_run ho hc ev, ha, map2 ev]
    rfl
  · have hp1 := evO_sound hf hx
    have hp2 := evO_sound hf hy
    obtain ⟨u, hu2⟩ : ∃ u, a.eval x = u := ⟨_, rfl⟩
    obtain ⟨z, hz2⟩ : ∃ u, a.eval y = u := ⟨_, rfl⟩
    rw [hu2] at hp1
    rw [hz2] at hp2
    cases hp1
    cases hp2
    obtain ⟨hlen, hcell⟩ := bytes_read hr hn hk hv hb
    obtain ⟨_, cs, fr, hs0, g1, g2, g3, g4⟩ := hr.obj n _ hn
    subst hlen
    refine ⟨ρ, w.freeze ((ρ n).at k) bs.length, .string ⟨bs.toArray⟩, ?_, (hr.freeze (k := k) hn h0).less get_updH, .string _⟩
    rw [hu2, hz2]
    exact run_unsafeString_at w ht hp h1 ((ρ n).at k) cs.size (shape_cells (b := ((ρ n).at k).block) g1) bs (fun e => h0 (by rw [e]; rfl)) (by show (ρ n).s + k + bs.length ≤ cs.size; omega) (by omega) hcell
theorem unsafeStr0_ok {c : Call} {x y : Operand} {pt : TypeId} {p : Option Addr} (ho : o.op = .call c) (hc : c.callee = .builtin .unsafeString) (ha : c.args = #[x, y]) (ht : c.argTypes[0]? = some pt) (hx : evO f x = some (.pointer p)) (hy : evO f y = some (.int .i64 0)) : QOk P o f s (.string .empty) := by
  refine qOk_of (sem := fun ev => Builtin.unsafeString_ c.argTypes o.type #[ev x, ev y]) (fun ev => ?_) (fun ρ w a hr hf => ?_)
  · rw [builtin_run ho hc ev, ha, map2 ev]
    rfl
  · have hp1 := evO_sound hf hx
    have hp2 := evO_sound hf hy
    obtain ⟨u, hu2⟩ : ∃ u, a.eval x = u := ⟨_, rfl⟩
    obtain ⟨z, hz2⟩ : ∃ u, a.eval y = u := ⟨_, rfl⟩
    rw [hu2] at hp1
    rw [hz2] at hp2
    refine ⟨.string .empty, ?_, .string _⟩
    rw [hu2, hz2]
    have hmax : IntKind.i64.max = 9223372036854775807 := rfl
    cases hp2
    have key : ∀ p : Option Addr, (Builtin.unsafeString_ c.argTypes o.type #[.pointer p, .int .i64 0]).run P w = .ok (.string .empty) w := fun p => by
      cases p with
      | none =>
        conv => lhs; arg 2; delta Builtin.unsafeString_; whnf
        simp [ht, hmax]
      | some a =>
        conv => lhs; arg 2; delta Builtin.unsafeString_; whnf
        simp [ht, hmax]
    cases hp1 with
    | nilPtr => exact key _
    | ptr => exact key _
theorem find_noEscape (fn : Func) (h1 : fn.name = "internal/abi.NoEscape") (h2 : fn.origin = "") : Extern.findNext fn = none ∧ Extern.find fn = some Extern.AbiNoEscape.same := by
  have a1 : Extern.allNextRows.lookup "internal/abi.NoEscape" = none := by kernel_rfl
  have a2 : Extern.allNextRows.lookup "" = none := by kernel_rfl
  have a3 : Extern.allGenericRows.lookup "internal/abi.NoEscape" = none := by kernel_rfl
  have a4 : Extern.allTypedRows.lookup "internal/abi.NoEscape" = none := by kernel_rfl
  have a5 : Extern.allRows.lookup "internal/abi.NoEscape" = some Extern.AbiNoEscape.same := by kernel_rfl
  constructor
  · simp only [Extern.findNext, h1, h2, a1, a2]
    rfl
  · simp only [Extern.find, h1, a3, a4, a5]
    rfl
theorem find_makeNZ (fn : Func) (h1 : fn.name = "internal/bytealg.MakeNoZero") (h2 : fn.origin = "") : Extern.findNext fn = none ∧ Extern.find fn = some (Extern.BytealgMakeNoZero.makeNoZero fn.params fn.resultTypes) := by
  have a1 : Extern.allNextRows.lookup "internal/bytealg.MakeNoZero" = none := by kernel_rfl
  have a2 : Extern.allNextRows.lookup "" = none := by kernel_rfl
  have a3 : Extern.allGenericRows.lookup "internal/bytealg.MakeNoZero" = none := by kernel_rfl
  have a4 : Extern.allTypedRows.lookup "internal/bytealg.MakeNoZero" = some Extern.BytealgMakeNoZero.makeNoZero := by kernel_rfl
  constructor
  · simp only [Extern.findNext, h1, h2, a1, a2]
    rfl
  · simp only [Extern.find, h1, a3, a4]
    rfl
noncomputable def extIs (P : Program) (g : FuncId) (name : String) : Option Func := match nth P.funcs.toList g with
  | some fn => match fn.name == name && fn.origin == "" && fn.body.isNone with
    | true => some fn
    | false => none
  | none => none
theorem extIs_is {g : FuncId} {name : String} {fn : Func} (h : extIs P g name = some fn) : P.funcs[g]? = some fn ∧ fn.name = name ∧ fn.origin = "" ∧ fn.body.isNone = true := by
  unfold extIs at h
  split at h
  · rename_i fn' hfn
    have hfn := fn_get hfn
    split at h
    · rename_i hc
      obtain rfl := Option.some.inj h
      simp only [Bool.and_eq_true, beq_iff_eq] at hc
      exact ⟨hfn, hc.1.1, hc.1.2, hc.2⟩
    · cases h
  · cases h
theorem callExt_run {c : Call} {x : Operand} {g : FuncId} {fs cs : Array Value} (ho : o.op = .call c) (hc : c.callee = .value x) {a : Act} (hx : a.eval x = .func (.func g) fs cs) (w : World) : (execOp a.eval o).run P w = (callFunc g (fs ++ c.args.map a.eval ++ cs)).run P w := by
  rw [call_run a.eval ho]
  have hres : resolve a.eval c o.type = pure { target := .fn (.func g) cs, args := fs ++ c.args.map a.eval } := by
    unfold resolve
    rw [hc]
    simp only [hx]
    rfl
  rw [hres]
  rfl
theorem func_nil {ρ : Nat → Nm} {nx : Nat} {g : FuncId} {u : Value} (h : VR ρ nx (.func (.func g) #[] #[]) u) : u = .func (.func g) #[] #[] := by
  cases h with
  | func _ _ _ a' b' _ h1 h2 =>
    rw [Array.eq_empty_of_size_eq_zero h1.symm, Array.eq_empty_of_size_eq_zero h2.symm]
theorem noEscape_ok {c : Call} {x y : Operand} {g : FuncId} {fn : Func} (ho : o.op = .call c) (hc : c.callee = .value x) (ha : c.args = #[y]) (hx : evO f x = some (.func (.func g) #[] #[])) (hg : extIs P g "internal/abi.NoEscape" = some fn) (hy : evO f y = some v) : QOk P o f s v := fun ρ w a hr hf => by
  have hq := func_nil (evO_sound hf hx)
  obtain ⟨e1, e2, e3, e4⟩ := extIs_is hg
  obtain ⟨n1, n2⟩ := find_noEscape fn e2 e3
  refine ⟨a.eval y, ?_, evO_sound hf hy⟩
  rw [callExt_run ho hc hq, ha, map1, Array.empty_append, Array.append_empty, run_callFunc_extern e1 (by rw [e2]; kernel_rfl) e4 n1 n2]
  rfl
theorem makeNZ_ok {c : Call} {x y : Operand} {g : FuncId} {fn : Func} {t elem : TypeId} {l : Nat} (ho : o.op = .call c) (hc : c.callee = .value x) (ha : c.args = #[y]) (hx : evO f x = some (.func (.func g) #[] #[])) (hg : extIs P g "internal/bytealg.MakeNoZero" = some fn) (hr1 : fn.resultTypes = #[t]) (hu : P.underlying t = some (.slice elem)) (hl : l ≤ 1048576) (hy : evO f y = some (.int .i64 (.ofNat l))) :
    ValOk P o f s (.slice (some ⟨s.nx, 0, none⟩) l l) (s.new (.cells .leaf l elem 1 0)) := fun ρ w a hr hf => by
  have hq := func_nil (evO_sound hf hx)
  have hp2 := evO_sound hf hy
  obtain ⟨z, hz2⟩ : ∃ u, a.eval y = u := ⟨_, rfl⟩
  rw [hz2] at hp2
  cases hp2
  obtain ⟨e1, e2, e3, e4⟩ := extIs_is hg
  obtain ⟨n1, n2⟩ := find_makeNZ fn e2 e3
  obtain ⟨cs, hrun, hle, _⟩ := Lib.run_makeNoZero (P := P) w fn.params t elem hu l (by omega)
  have hO : OR (upd ρ s.nx ⟨w.heap.size, 0, cs.size - l⟩) (s.nx + 1) ⟨w.heap.size, 0, cs.size - l⟩ (.cells .leaf l elem 1 0) (some (.cells cs elem)) := ⟨cs, (0, 0), fun _ => rfl, rfl, by simp only; omega, fun i v _ hv => (by cases hv), Nat.zero_le _⟩
  have st := newAt hr _ _ ⟨w.heap.size, 0, cs.size - l⟩ rfl hO (w.drawn + 2)
  have hsl := sl_at (ρ := ρ) (nx := s.nx) (l := l) (c := l) (b := w.heap.size) (s := 0) (e := cs.size - l)
  rw [show l + (cs.size - l) = cs.size by omega] at hsl
  refine ⟨_, _, _, ?_, st.less get_updH, hsl⟩
  rw [callExt_run ho hc hq, ha, map1, Array.empty_append, Array.append_empty, run_callFunc_extern e1 (by rw [e2]; kernel_rfl) e4 n1 n2, hr1, hz2]
  show ((Extern.BytealgMakeNoZero.makeNoZero fn.params #[t] #[.int .i64 l]).run P w).andThen _ = _
  rw [hrun]
  rfl
noncomputable def extFlat (P : Program) (g : FuncId) (vs : List Value) : Option Value := match nth P.funcs.toList g with
  | some fn => match !(fn.name == "runtime.NumGoroutine") && (fn.body.isNone && ((Extern.findNext fn).isNone && vs.all flat)), Extern.find fn with
    | true, some e => match runPure P (e vs.toArray) with
      | some v => match flat v with
        | true => some v
        | false => none
      | none => none
    | _, _ => none
  | none => none
theorem extFlat_ok {c : Call} {x : Operand} {g : FuncId} {vs : List Value} (ho : o.op = .call c) (hc : c.callee = .value x) (hx : evO f x = some (.func (.func g) #[] #[])) (ha : evAll f c.args.toList = some vs) (hg : extFlat P g vs = some v) : QOk P o f s v := fun ρ w a hr hf => by
  have hq := func_nil (evO_sound hf hx)
  have har := evAll_ar hf ha
  unfold extFlat at hg
  split at hg
  · rename_i fn hfn
    have hfn := fn_get hfn
    split at hg
    · rename_i e hcond hfind
      simp only [Bool.and_eq_true, Bool.not_eq_true', List.all_eq_true] at hcond
      obtain ⟨c1, c2, c3, c4⟩ := hcond
      split at hg
      · rename_i u hu
        split at hg
        · rename_i hfl
          obtain rfl := Option.some.inj hg
          refine ⟨u, ?_, flat_vr hfl⟩
          have hargs : c.args.map a.eval = vs.toArray := by
            have h1 := har.1
            apply Array.ext
            · exact h1.symm
            · intro i hi1 hi2
              have h2 := har.2 i vs.toArray[i] (c.args.map a.eval)[i] (Array.getElem?_eq_getElem hi2) (Array.getElem?_eq_getElem hi1)
              exact flat_eq (c4 _ (by simp)) h2
          have hn : Extern.findNext fn = none := by simpa using c3
          rw [callExt_run ho hc hq, hargs, Array.empty_append, Array.append_empty, run_callFunc_extern hfn c1 c2 hn hfind, runPure_run _ _ hu w]
          rfl
        · cases hg
      · cases hg
    · cases hg
  · cases hg
theorem copy_ok {c : Call} {x y : Operand} {t elem : TypeId} {inf : TypeInfo} {n k m e sz fz q dl dc : Nat} {sp : Option Nat} {tr : T Value} {u : Value} {vs : List Value} (ho : o.op = .call c) (hc : c.callee = .builtin .copy) (ha : c.args = #[x, y]) (ht : c.argTypes[0]? = some t) (hu : P.underlying t = some (.slice elem)) (hi : P.info? elem = some inf) (hx : evO f x = some (.slice (some ⟨n, k, sp⟩) dl dc)) (hsp : sp = none ∨ sp = some 0) (hy : evO f y = some u) (hs : srcA s inf.size u = some (q, vs)) (hq : q ≤ dl)
    (hn : s.h.get n = some (.cells tr m e sz fz)) (h1 : vs.all (·.oneCell') = true) (hz : fz ≤ k) (hk : k + q * inf.size ≤ m) : ValOk P o f s (.int .i64 q) ⟨s.h.set (.cells (writeF vs tr k) m e sz fz) n, s.nx⟩ := by
  refine valOk_of (sem := fun ev => Builtin.copy_ c.argTypes o.type #[ev x, ev y]) (fun ev => ?_) (fun ρ w a hr hf => ?_)
  · rw [builtin_run ho hc ev, ha, map2 ev]
    rfl
  · have hp := evO_sound hf hx
    have hv := evO_sound hf hy
    obtain ⟨b, hb⟩ : ∃ b, a.eval x = b := ⟨_, rfl⟩
    obtain ⟨g, hg⟩ : ∃ g, a.eval y = g := ⟨_, rfl⟩
    rw [hb] at hp
    rw [hg] at hv
    obtain ⟨r1, us, r2, r3, r4, r5⟩ := srcA_sim P hr hs hv
    obtain ⟨w', hw, st⟩ := storeCells_sim P (o := k) vs us 0 tr s.h.get w hr hn r2.symm (fun j p q hp hq => r5.2 j p q (by simpa using hp) (by simpa using hq)) (fun p hp => List.all_eq_true.1 h1 p hp) (by omega) (by omega)
    refine ⟨ρ, w', .int .i64 q, ?_, st.less get_updH, .int _ _⟩
    have hrun : ∀ cc, (Builtin.copy_ c.argTypes o.type #[.slice (some ((ρ n).at k)) dl cc, g]).run P w = .ok (.int .i64 q) w' := fun cc => by
      have e0 : (#[Value.slice (some ((ρ n).at k)) dl cc, g] : Array Value)[0]? = some (.slice (some ((ρ n).at k)) dl cc) := rfl
      have e1 : (#[Value.slice (some ((ρ n).at k)) dl cc, g] : Array Value)[1]? = some g := rfl
      have hmin : Nat.min q dl = q := Nat.min_eq_left hq
      simp only [Builtin.copy_, ht, e0, e1, Sem.run_bind, run_und hu, Result.andThen_ok, r1, hmin, run_siz hi, r4, hw, Sem.run_pure]
      rfl
    rw [hb, hg]
    rcases hsp with rfl | rfl
    · cases hp
      exact hrun _
    · cases hp
      exact hrun _
theorem sliceArr_ok {t e : TypeId} {N : Nat} {inf : TypeInfo} {x : Operand} {lo hi mx : Option Operand} {n k l h m : Nat} (ho : o.op = .slice t x lo hi mx) (hu : P.underlying t = some (.array N e)) (hi2 : P.info? e = some inf) (hx : evO f x = some (.pointer (some ⟨n, k, none⟩))) (hl : idxA f lo 0 = some l) (hh : idxA f hi N = some h) (hm : idxA f mx N = some m) (h1 : l ≤ h) (h2 : h ≤ m) (h3 : m ≤ N) (h4 : mx.isSome = true → hi.isSome = true) :
    QOk P o f s (cutFx n k inf.size l h m) := by
  refine qOk_of (sem := fun ev => Instr.sliceAt t (ev x) (lo.map ev) (hi.map ev) (mx.map ev)) (fun ev => slice_run ho ev) (fun ρ w a hr hf => ?_)
  have hp := evO_sound hf hx
  obtain ⟨u, hu2⟩ : ∃ u, a.eval x = u := ⟨_, rfl⟩
  rw [hu2] at hp
  cases hp
  rename_i hn
  have hb := bounds_run P hf (b := false) (len := N) (cap := N) hl hh hm h1 h2 h3 h4 w
  refine ⟨.slice (some (if m = l then (ρ n).at k else ((ρ n).at k).add (l * inf.size))) (h - l) (m - l), ?_, ?_⟩
  · simp only [hu2, Instr.sliceAt, Sem.run_bind, run_und hu, Result.andThen_ok, Instr.sureAddr, Sem.run_pure, hb, run_siz hi2]
  · unfold cutFx
    rcases hq : Nat.beq l m with _ | _
    · have hne : l ≠ m := Nat.ne_of_beq_eq_false hq
      rw [if_neg (by omega)]
      simp only [at_add]
      exact VR.fx n (k + l * inf.size) (h - l) (m - l) hn
    · obtain rfl := Nat.eq_of_beq_eq_true hq
      obtain rfl : l = h := by omega
      rw [if_pos rfl, Nat.sub_self]
      exact VR.fx n k 0 0 hn
end
end Go.Proofs.YthdjicolicokcaaGreatDoor.Ev
namespace Go.Proofs.YthdjicolicokcaaGreatDoor.Ev
open Go
inductive R where
  | fail (why : Nat)
  | normal (f : T Value) (s : St)
  | ret (f : T Value) (s : St)
  | exit (id : Nat) (f : T Value) (s : St)
inductive CR where
  | fail (why : Nat)
  | ok (v : Value) (s : St)
abbrev Cl := Bool → Nat → List Value → St → CR
abbrev K := Value → St → R
inductive Path where
  | bad
  | e
  | p0 (p : Path)
  | p1 (p : Path)
  | p2 (p : Path)
  | p3 (p : Path)
noncomputable def pathF (fuel : Nat) : Nat → Path :=
  Nat.rec (motive := fun _ => Nat → Path) (fun _ => .bad) (fun _ ih n => Nat.casesOn n .e (fun m => pick4 (Nat.mod m 4) (.p0 (ih (Nat.div m 4))) (.p1 (ih (Nat.div m 4))) (.p2 (ih (Nat.div m 4))) (.p3 (ih (Nat.div m 4))))) fuel
noncomputable def path (n : Nat) : Path := pathF 9 n
noncomputable def acc (p : Path) : T Value → Option Value :=
  Path.rec (motive := fun _ => T Value → Option Value) (fun _ => none) (fun t => T.rec (motive := fun _ => Option Value) none (fun o _ _ _ _ _ _ _ _ => o) t)
    (fun _ ih t => T.rec (motive := fun _ => Option Value) none (fun _ a _ _ _ _ _ _ _ => ih a) t)
    (fun _ ih t => T.rec (motive := fun _ => Option Value) none (fun _ _ b _ _ _ _ _ _ => ih b) t)
    (fun _ ih t => T.rec (motive := fun _ => Option Value) none (fun _ _ _ c _ _ _ _ _ => ih c) t)
    (fun _ ih t => T.rec (motive := fun _ => Option Value) none (fun _ _ _ _ d _ _ _ _ => ih d) t) p
noncomputable def putP (p : Path) (x : Value) : T Value → T Value :=
  Path.rec (motive := fun _ => T Value → T Value) (fun _ => .leaf) (fun t => T.rec (motive := fun _ => T Value) (.node (some x) .leaf .leaf .leaf .leaf) (fun _ a b c d _ _ _ _ => .node (some x) a b c d) t)
    (fun _ ih t => T.rec (motive := fun _ => T Value) (.node none (ih .leaf) .leaf .leaf .leaf) (fun o a b c d _ _ _ _ => .node o (ih a) b c d) t)
    (fun _ ih t => T.rec (motive := fun _ => T Value) (.node none .leaf (ih .leaf) .leaf .leaf) (fun o a b c d _ _ _ _ => .node o a (ih b) c d) t)
    (fun _ ih t => T.rec (motive := fun _ => T Value) (.node none .leaf .leaf (ih .leaf) .leaf) (fun o a b c d _ _ _ _ => .node o a b (ih c) d) t)
    (fun _ ih t => T.rec (motive := fun _ => T Value) (.node none .leaf .leaf .leaf (ih .leaf)) (fun o a b c d _ _ _ _ => .node o a b c (ih d)) t) p
noncomputable def ev (x : Operand) : T Value → Option Value :=
  Operand.rec (motive := fun _ => T Value → Option Value) (fun t => acc (path t)) (fun v _ => Bool.rec (motive := fun _ => Option Value) none (some v) (flat v)) (fun _ _ => none) (fun g _ => some (.func (.func g) #[] #[])) x
noncomputable def put (N : Nat) (d : Option Tmp) (v : Value) (f : T Value) : T Value :=
  Option.rec (motive := fun _ => T Value) f (fun d => Bool.rec (motive := fun _ => T Value) f (putP (path d) v f) (Nat.ble (Nat.succ d) N)) d
noncomputable def onO {α : Type} (why : Nat) (o : Option α) (k : α → R) : R := Option.rec (motive := fun _ => R) (.fail why) k o
noncomputable def onB (why : Nat) (b : Bool) (r : R) : R := Bool.rec (motive := fun _ => R) (.fail why) r b
noncomputable def onPtr (v : Value) (k : Nat → Nat → R) : R :=
  Value.casesOn (motive_1 := fun _ => R) v (fun _ => .fail 3) (fun _ _ => .fail 3) (fun _ _ => .fail 3) (fun _ _ _ => .fail 3) (fun _ => .fail 3)
    (fun a => Option.rec (motive := fun _ => R) (.fail 4) (fun a => Addr.rec (motive := fun _ => R) (fun n o q => Option.rec (motive := fun _ => R) (k n o) (fun _ => .fail 5) q) a) a)
    (fun _ _ _ => .fail 3) (fun _ => .fail 3) (fun _ => .fail 3) (fun _ _ _ => .fail 3) (.fail 3) (fun _ _ => .fail 3) (.fail 3) (fun _ => .fail 3) (fun _ => .fail 3)
noncomputable def onInt (v : Value) (k : IntKind → Int → R) : R :=
  Value.casesOn (motive_1 := fun _ => R) v (fun _ => .fail 6) k (fun _ _ => .fail 6) (fun _ _ _ => .fail 6) (fun _ => .fail 6) (fun _ => .fail 6)
    (fun _ _ _ => .fail 6) (fun _ => .fail 6) (fun _ => .fail 6) (fun _ _ _ => .fail 6) (.fail 6) (fun _ _ => .fail 6) (.fail 6) (fun _ => .fail 6) (fun _ => .fail 6)
noncomputable def onBool (v : Value) (k : Bool → R) : R :=
  Value.casesOn (motive_1 := fun _ => R) v k (fun _ _ => .fail 7) (fun _ _ => .fail 7) (fun _ _ _ => .fail 7) (fun _ => .fail 7) (fun _ => .fail 7)
    (fun _ _ _ => .fail 7) (fun _ => .fail 7) (fun _ => .fail 7) (fun _ _ _ => .fail 7) (.fail 7) (fun _ _ => .fail 7) (.fail 7) (fun _ => .fail 7) (fun _ => .fail 7)
noncomputable def onSl (v : Value) (k : Option Addr → Nat → Nat → R) : R :=
  Value.casesOn (motive_1 := fun _ => R) v (fun _ => .fail 8) (fun _ _ => .fail 8) (fun _ _ => .fail 8) (fun _ _ _ => .fail 8) (fun _ => .fail 8) (fun _ => .fail 8)
    k (fun _ => .fail 8) (fun _ => .fail 8) (fun _ _ _ => .fail 8) (.fail 8) (fun _ _ => .fail 8) (.fail 8) (fun _ => .fail 8) (fun _ => .fail 8)
noncomputable def onMap (v : Value) (k : Option Nat → R) : R :=
  Value.casesOn (motive_1 := fun _ => R) v (fun _ => .fail 9) (fun _ _ => .fail 9) (fun _ _ => .fail 9) (fun _ _ _ => .fail 9) (fun _ => .fail 9) (fun _ => .fail 9)
    (fun _ _ _ => .fail 9) k (fun _ => .fail 9) (fun _ _ _ => .fail 9) (.fail 9) (fun _ _ => .fail 9) (.fail 9) (fun _ => .fail 9) (fun _ => .fail 9)
noncomputable def onAgg (v : Value) (k : Array Value → R) : R :=
  Value.casesOn (motive_1 := fun _ => R) v (fun _ => .fail 10) (fun _ _ => .fail 10) (fun _ _ => .fail 10) (fun _ _ _ => .fail 10) (fun _ => .fail 10) (fun _ => .fail 10)
    (fun _ _ _ => .fail 10) (fun _ => .fail 10) (fun _ => .fail 10) (fun _ _ _ => .fail 10) (.fail 10) (fun _ _ => .fail 10) (.fail 10) k (fun _ => .fail 10)
noncomputable def onTup (v : Value) (k : Array Value → R) : R :=
  Value.casesOn (motive_1 := fun _ => R) v (fun _ => .fail 11) (fun _ _ => .fail 11) (fun _ _ => .fail 11) (fun _ _ _ => .fail 11) (fun _ => .fail 11) (fun _ => .fail 11)
    (fun _ _ _ => .fail 11) (fun _ => .fail 11) (fun _ => .fail 11) (fun _ _ _ => .fail 11) (.fail 11) (fun _ _ => .fail 11) (.fail 11) (fun _ => .fail 11) k
noncomputable def onFun (v : Value) (k : FuncId → Array Value → Array Value → R) (ky : Nat → R) : R :=
  Value.casesOn (motive_1 := fun _ => R) v (fun _ => .fail 12) (fun _ _ => .fail 12) (fun _ _ => .fail 12) (fun _ _ _ => .fail 12) (fun _ => .fail 12) (fun _ => .fail 12)
    (fun _ _ _ => .fail 12) (fun _ => .fail 12) (fun _ => .fail 12) (fun g a b => Fn.rec (motive := fun _ => R) (fun g => k g a b) (fun _ => .fail 12) (fun _ _ => .fail 12) (fun _ _ _ _ => .fail 12) ky g) (.fail 12) (fun _ _ => .fail 12) (.fail 12) (fun _ => .fail 12) (fun _ => .fail 12)
noncomputable def onIface (v : Value) (k : TypeId → Value → R) : R :=
  Value.casesOn (motive_1 := fun _ => R) v (fun _ => .fail 13) (fun _ _ => .fail 13) (fun _ _ => .fail 13) (fun _ _ _ => .fail 13) (fun _ => .fail 13) (fun _ => .fail 13)
    (fun _ _ _ => .fail 13) (fun _ => .fail 13) (fun _ => .fail 13) (fun _ _ _ => .fail 13) (.fail 13) k (.fail 13) (fun _ => .fail 13) (fun _ => .fail 13)
noncomputable def onCells (s : St) (n : Nat) (k : T Value → Nat → TypeId → Nat → Nat → R) : R :=
  onO 14 (s.h.get n) (fun a => AO.rec (motive := fun _ => R) k (fun _ _ => .fail 15) (fun _ _ => .fail 15) (fun _ _ _ _ => .fail 15) (fun _ _ _ _ _ => .fail 15) (fun _ => .fail 15) (fun _ _ => .fail 15) a)
noncomputable def onEnts (s : St) (n : Nat) (k : List MapEntry → Nat → R) : R :=
  onO 16 (s.h.get n) (fun a => AO.rec (motive := fun _ => R) (fun _ _ _ _ _ => .fail 17) k (fun _ _ => .fail 17) (fun _ _ _ _ => .fail 17) (fun _ _ _ _ _ => .fail 17) (fun _ => .fail 17) (fun _ _ => .fail 17) a)
noncomputable def onEntsP (s : St) (n : Nat) (k : List MapEntry → Nat → R) (kp : List MapEntry → R) : R :=
  onO 16 (s.h.get n) (fun a => AO.rec (motive := fun _ => R) (fun _ _ _ _ _ => .fail 17) k (fun _ _ => .fail 17) (fun _ _ _ _ => .fail 17) (fun _ _ _ _ _ => .fail 17) kp (fun _ _ => .fail 17) a)
noncomputable def onLoop (s : St) (n : Nat) (k : T Value → Nat → Array Tmp → Code → Code → R) : R :=
  onO 18 (s.h.get n) (fun a => AO.rec (motive := fun _ => R) (fun _ _ _ _ _ => .fail 19) (fun _ _ => .fail 19) (fun _ _ => .fail 19) (fun _ _ _ _ => .fail 19) k (fun _ => .fail 19) (fun _ _ => .fail 19) a)
noncomputable def forceN (n : Nat) (k : Nat → R) : R := Nat.rec (motive := fun _ => R) (k 0) (fun m _ => k (Nat.succ m)) n
noncomputable def forceT (t : T AO) (k : T AO → R) : R := T.rec (motive := fun _ => R) (k .leaf) (fun o a b c d _ _ _ _ => k (.node o a b c d)) t
noncomputable def newS (s : St) (a : AO) (k : Nat → St → R) : R :=
  St.rec (motive := fun _ => R) (fun h nx => forceN nx (fun nx => forceT (h.set a nx) (fun h => forceN (Nat.succ nx) (fun m => k nx ⟨h, m⟩)))) s
noncomputable def setS (s : St) (n : Nat) (a : AO) (k : St → R) : R :=
  St.rec (motive := fun _ => R) (fun h nx => forceT (h.set a n) (fun h => k ⟨h, nx⟩)) s
end Go.Proofs.YthdjicolicokcaaGreatDoor.Ev
namespace Go.Proofs.YthdjicolicokcaaGreatDoor.Ev
open Go
noncomputable def maxOf (k : IntKind) : Nat := IntKind.rec (motive := fun _ => Nat) 127 32767 2147483647 9223372036854775807 255 65535 4294967295 18446744073709551615 k
noncomputable def mkInt (k : IntKind) (n : Nat) (c : Value → R) : R := forceN n (fun n => c (.int k (.ofNat n)))
noncomputable def mkBool (b : Bool) (c : Value → R) : R := Bool.rec (motive := fun _ => R) (c (.bool false)) (c (.bool true)) b
noncomputable def sameKind (a b : IntKind) : Bool := Nat.beq a.ctorIdx b.ctorIdx
noncomputable def bnot (b : Bool) : Bool := Bool.rec (motive := fun _ => Bool) true false b
noncomputable def intEq (a b : Int) : Bool := match a, b with
  | .ofNat m, .ofNat n => Nat.beq m n
  | .negSucc m, .negSucc n => Nat.beq m n
  | _, _ => false
noncomputable def band (a b : Bool) : Bool := Bool.rec (motive := fun _ => Bool) false b a
noncomputable def boolEq (a b : Bool) : Bool := match a, b with
  | true, true => true
  | false, false => true
  | _, _ => false
noncomputable def listEq {α : Type} (e : α → α → Bool) : List α → List α → Bool := fun a => List.rec (motive := fun _ => List α → Bool) (fun b => List.isEmpty b) (fun x _ ih b => match b with
  | [] => false
  | y :: b => band (e x y) (ih b)) a
noncomputable def optEq (a b : Option Nat) : Bool := match a, b with
  | none, none => true
  | some a, some b => Nat.beq a b
  | _, _ => false
noncomputable def addrEq (a b : Option Addr) : Bool := match a, b with
  | none, none => true
  | some a, some b => band (Nat.beq a.block b.block) (band (Nat.beq a.off b.off) (optEq a.spot b.spot))
  | _, _ => false
noncomputable def veqS (ih : Value → Value → Bool) (x y : Value) : Bool := match x, y with
  | .bool a, .bool b => boolEq a b
  | .int k a, .int j b => band (sameKind k j) (intEq a b)
  | .string a, .string b => listEq (fun x y => Nat.beq (UInt8.toNat x) (UInt8.toNat y)) a.data.toList b.data.toList
  | .pointer a, .pointer b => addrEq a b
  | .slice a l c, .slice b m d => band (addrEq a b) (band (Nat.beq l m) (Nat.beq c d))
  | .map a, .map b => optEq a b
  | .func (.func g) a b, .func (.func h) c d => band (Nat.beq g h) (band (listEq ih a.toList c.toList) (listEq ih b.toList d.toList))
  | .nilFunc, .nilFunc => true
  | .nilIface, .nilIface => true
  | .iface t a, .iface u b => band (Nat.beq t u) (ih a b)
  | .agg a, .agg b => listEq ih a.toList b.toList
  | .tuple a, .tuple b => listEq ih a.toList b.toList
  | _, _ => false
noncomputable def veqN (n : Nat) : Value → Value → Bool := Nat.rec (motive := fun _ => Value → Value → Bool) (fun _ _ => false) (fun _ ih => veqS ih) n
noncomputable def veq (x y : Value) : Bool := veqN 8 x y
noncomputable def uns (k : IntKind) : Bool := IntKind.rec (motive := fun _ => Bool) false false false false true true true true k
noncomputable def bitsOf (k : IntKind) : Nat := IntKind.rec (motive := fun _ => Nat) 8 16 32 64 8 16 32 64 k
noncomputable def wrapN (k : IntKind) (n : Nat) (slow : R) (c : Value → R) : R := Bool.rec (motive := fun _ => R) (Bool.rec (motive := fun _ => R) slow (mkInt k (Nat.mod n (Nat.succ (maxOf k))) c) (uns k)) (mkInt k n c) (Nat.ble n (maxOf k))
inductive NF where
  | mk (r : IntKind → Nat → Nat → R → (Value → R) → R)
noncomputable def bitsN (g : Nat → Nat → Nat) (k : IntKind) (a b : Nat) (slow : R) (c : Value → R) : R := Bool.rec (motive := fun _ => R) slow (Bool.rec (motive := fun _ => R) slow (wrapN k (g a b) slow c) (Nat.ble b (maxOf k))) (Nat.ble a (maxOf k))
noncomputable def natF (op : BinOp) : NF :=
  match op with
  | .add => .mk (fun k a b slow c => wrapN k (Nat.add a b) slow c)
  | .sub => .mk (fun k a b slow c => Bool.rec (motive := fun _ => R) slow (Bool.rec (motive := fun _ => R) slow (mkInt k (Nat.sub a b) c) (Nat.ble (Nat.sub a b) (maxOf k))) (Nat.ble b a))
  | .mul => .mk (fun k a b slow c => wrapN k (Nat.mul a b) slow c)
  | .quo => .mk (fun k a b slow c => Bool.rec (motive := fun _ => R) slow (wrapN k (Nat.div a b) slow c) (Nat.ble 1 b))
  | .rem => .mk (fun k a b slow c => Bool.rec (motive := fun _ => R) slow (mkInt k (Nat.mod a b) c) (Nat.ble 1 b))
  | .and => .mk (bitsN Nat.land)
  | .or => .mk (bitsN Nat.lor)
  | .xor => .mk (bitsN Nat.xor)
  | .lss => .mk (fun _ a b _ c => mkBool (Nat.ble (Nat.succ a) b) c)
  | .leq => .mk (fun _ a b _ c => mkBool (Nat.ble a b) c)
  | .gtr => .mk (fun _ a b _ c => mkBool (Nat.ble (Nat.succ b) a) c)
  | .geq => .mk (fun _ a b _ c => mkBool (Nat.ble b a) c)
  | .eql => .mk (fun _ a b _ c => mkBool (Nat.beq a b) c)
  | .neq => .mk (fun _ a b _ c => mkBool (bnot (Nat.beq a b)) c)
  | _ => .mk (fun _ _ _ slow _ => slow)
noncomputable def natOp (op : BinOp) (k : IntKind) (a b : Nat) (slow : R) (c : Value → R) : R := NF.rec (motive := fun _ => R) (fun r => r k a b slow c) (natF op)
noncomputable def shF (op : BinOp) : NF :=
  match op with
  | .shl => .mk (fun k a b slow c => Bool.rec (motive := fun _ => R) slow (wrapN k (Nat.shiftLeft a b) slow c) (Nat.ble b (bitsOf k)))
  | .shr => .mk (fun k a b slow c => Bool.rec (motive := fun _ => R) slow (mkInt k (Nat.shiftRight a b) c) (Nat.ble b (bitsOf k)))
  | _ => .mk (fun _ _ _ slow _ => slow)
noncomputable def shOp (op : BinOp) (x y : Value) (slow : R) (c : Value → R) : R :=
  match x, y with
  | .int k (.ofNat a), .int _ (.ofNat b) => NF.rec (motive := fun _ => R) (fun r => r k a b slow c) (shF op)
  | _, _ => slow
noncomputable def intOp (op : BinOp) (x y : Value) (slow : R) (c : Value → R) : R :=
  match x, y with
  | .int k (.ofNat a), .int k' (.ofNat b) => Bool.rec (motive := fun _ => R) slow (natOp op k a b slow c) (sameKind k k')
  | _, _ => slow
noncomputable def evs (f : T Value) (xs : List Operand) : Option (List Value) := List.rec (motive := fun _ => Option (List Value)) (some []) (fun x _ ih => Option.rec (motive := fun _ => Option (List Value)) none (fun v => Option.rec (motive := fun _ => Option (List Value)) none (fun vs => some (v :: vs)) ih) (ev x f)) xs
noncomputable def evp (f : T Value) (xs : List (Nat × Operand)) : Option (List (Nat × Value)) := List.rec (motive := fun _ => Option (List (Nat × Value))) (some []) (fun x _ ih => Option.rec (motive := fun _ => Option (List (Nat × Value))) none (fun v => Option.rec (motive := fun _ => Option (List (Nat × Value))) none (fun vs => some ((x.1, v) :: vs)) ih) (ev x.2 f)) xs
noncomputable def app {α : Type} (a b : List α) : List α := List.rec (motive := fun _ => List α) b (fun x _ ih => x :: ih) a
noncomputable def spotN (q : Option Nat) : Nat := Option.rec (motive := fun _ => Nat) 0 (fun n => n) q
noncomputable def canonL (l : List UInt8) : (List UInt8 → R) → R := List.rec (motive := fun _ => (List UInt8 → R) → R) (fun k => k []) (fun x _ ih k => forceN (UInt8.toNat x) (fun n => ih (fun l => k (UInt8.ofNat n :: l)))) l
noncomputable def canonB (b : ByteArray) (k : ByteArray → R) : R := canonL b.data.toList (fun l => k ⟨⟨l⟩⟩)
noncomputable def canonI (z : Int) (k : Int → R) : R := Int.rec (motive := fun _ => R) (fun n => forceN n (fun n => k (.ofNat n))) (fun n => forceN n (fun n => k (.negSucc n))) z
noncomputable def canonV (v : Value) (k : Value → R) : R := match v with
  | .int i z => canonI z (fun z => k (.int i z))
  | .bool b => Bool.rec (motive := fun _ => R) (k (.bool false)) (k (.bool true)) b
  | .string b => canonB b (fun b => k (.string b))
  | v => k v
noncomputable def dropL {α : Type} (l : List α) : Nat → List α := List.rec (motive := fun _ => Nat → List α) (fun _ => []) (fun x t ih n => Nat.casesOn n (x :: t) (fun n => ih n)) l
noncomputable def takeL {α : Type} (l : List α) : Nat → List α := List.rec (motive := fun _ => Nat → List α) (fun _ => []) (fun x _ ih n => Nat.casesOn n [] (fun n => x :: ih n)) l
noncomputable def byteEq (a b : ByteArray) : Bool := listEq (fun x y => Nat.beq (UInt8.toNat x) (UInt8.toNat y)) a.data.toList b.data.toList
noncomputable def strOp (op : BinOp) (x y : Value) (slow : R) (c : Value → R) : R := match op, x, y with
  | .add, .string a, .string b => Bool.rec (motive := fun _ => R) slow (canonL (app a.data.toList b.data.toList) (fun l => c (.string ⟨⟨l⟩⟩))) (Nat.ble (Nat.add a.size b.size) 9223372036854775807)
  | .eql, .string a, .string b => mkBool (byteEq a b) c
  | .neq, .string a, .string b => mkBool (bnot (byteEq a b)) c
  | _, _, _ => slow
section
variable (P : Program)
noncomputable def slowOp (o : Oper) (f : T Value) (s : St) (k : K) : R := onO 20 (flatOp P o f) (fun v => canonV v (fun v => k v s))
noncomputable def xMove (x : Operand) (f : T Value) (s : St) (k : K) : R := onO 21 (ev x f) (fun v => k v s)
noncomputable def xPick (c x y : Operand) (f : T Value) (s : St) (k : K) : R := onO 22 (ev c f) (fun b => onBool b (fun b => Bool.rec (motive := fun _ => R) (onO 22 (ev y f) (fun v => k v s)) (onO 22 (ev x f) (fun v => k v s)) b))
noncomputable def xAlloc (ty : TypeId) (s : St) (k : K) : R :=
  onO 23 (P.info? ty) (fun i => onO 23 i.zero (fun z => onB 23 (flat z) (newS s (.cells (ofL z.cells.toList) z.cells.size ty 0 0) (fun n s => k (.pointer (some ⟨n, 0, none⟩)) s))))
noncomputable def xBox (ty : TypeId) (x : Operand) (f : T Value) (s : St) (k : K) : R :=
  onO 24 (ev x f) (fun v => newS s (.cells (ofL v.cells.toList) v.cells.size ty 0 0) (fun n s => k (.pointer (some ⟨n, 0, none⟩)) s))
noncomputable def xLoad (ty : TypeId) (x : Operand) (f : T Value) (s : St) (k : K) : R :=
  onO 25 (ev x f) (fun v => onPtr v (fun n o => onCells s n (fun t m _ _ _ => onO 25 (P.underlying ty) (fun d =>
    Bool.rec (motive := fun _ => R) (onB 26 (Nat.ble (Nat.succ o) m) (onO 26 (t.get o) (fun v => k v s)))
      (onO 25 (P.info? ty) (fun i => onB 27 (Nat.ble (Nat.add o i.size) m) (onO 27 (readF t o i.size) (fun vs => k (.agg vs.toArray) s)))) (isAggD d)))))
noncomputable def one (v : Value) : Bool := v.oneCell'
noncomputable def allOne (vs : List Value) : Bool := List.rec (motive := fun _ => Bool) true (fun v _ ih => Bool.rec (motive := fun _ => Bool) false ih (one v)) vs
noncomputable def xStore (ty : TypeId) (x y : Operand) (f : T Value) (s : St) (k : K) : R :=
  onO 28 (ev x f) (fun p => onPtr p (fun n o => onCells s n (fun t m e sz fz => onO 28 (ev y f) (fun v => onO 28 (P.info? ty) (fun i =>
    onB 29 (Nat.beq v.cells.size i.size) (onB 30 (allOne v.cells.toList) (onB 31 (Nat.ble fz o) (onB 32 (Nat.ble (Nat.add o i.size) m)
      (setS s n (.cells (writeF v.cells.toList t o) m e sz fz) (fun s => k undef s))))))))))
noncomputable def xNil (x : Operand) (f : T Value) (s : St) (k : K) : R := onO 33 (ev x f) (fun v => onPtr v (fun _ _ => k v s))
noncomputable def xExtract (x : Operand) (i : Nat) (f : T Value) (s : St) (k : K) : R := onO 34 (ev x f) (fun v => onTup v (fun vs => onO 34 (nth vs.toList i) (fun v => k v s)))
noncomputable def isIfc (d : TypeDesc) : Bool := match d with | .interface _ => true | _ => false
noncomputable def xIface (t : TypeId) (x : Operand) (f : T Value) (s : St) (k : K) : R := onO 35 (ev x f) (fun v => onO 35 (P.underlying t) (fun d => onB 35 (bnot (isIfc d)) (k (.iface t v) s)))
noncomputable def xFunc (g : Fn) (xs ys : Array Operand) (f : T Value) (s : St) (k : K) : R := onO 36 (evs f xs.toList) (fun vs => onO 36 (evs f ys.toList) (fun us => onB 36 (bnot (isY g)) (k (.func g vs.toArray us.toArray) s)))
noncomputable def structOf (t : TypeId) : Option (Array Field) := match P.underlying t with
  | some (.struct fs) => some fs
  | _ => none
noncomputable def sliceOf (t : TypeId) : Option TypeId := match P.underlying t with
  | some (.slice e) => some e
  | _ => none
noncomputable def arrOf (t : TypeId) : Option (Nat × TypeId) := match P.underlying t with
  | some (.array n e) => some (n, e)
  | _ => none
noncomputable def mapOf (t : TypeId) : Option (TypeId × TypeId) := match P.underlying t with
  | some (.map k e) => some (k, e)
  | _ => none
noncomputable def fieldOf (t : TypeId) (i : Nat) : Option Field := match structOf P t with
  | some fs => fs[i]?
  | none => none
noncomputable def xField (ty : TypeId) (x : Operand) (i : Nat) (f : T Value) (s : St) (k : K) : R :=
  onO 37 (ev x f) (fun v => onPtr v (fun n o => onO 37 (fieldOf P ty i) (fun fd => onO 37 (P.info? fd.type) (fun inf => onB 38 (bnot (Nat.beq inf.size 0))
    (forceN (Nat.add o fd.offset) (fun o => k (.pointer (some ⟨n, o, none⟩)) s))))))
noncomputable def onNat (i : Int) (k : Nat → R) : R := Int.rec (motive := fun _ => R) k (fun _ => .fail 39) i
noncomputable def onPlace (a : Option Addr) (k : Nat → Nat → Option Nat → R) : R := onO 40 a (fun a => Addr.rec (motive := fun _ => R) k a)
noncomputable def xIndexAddr (ty : TypeId) (x y : Operand) (f : T Value) (s : St) (k : K) : R :=
  onO 41 (ev x f) (fun v => onO 41 (ev y f) (fun iv => onInt iv (fun _ i => onNat i (fun i => onO 41 (P.underlying ty) (fun d => match d with
    | .slice e => onO 41 (P.info? e) (fun inf => onSl v (fun a l _ => onB 42 (Nat.ble (Nat.succ i) l) (onPlace a (fun n o q => onB 42 (Nat.ble (spotN q) 0) (forceN (Nat.add o (Nat.mul i inf.size)) (fun o => k (.pointer (some ⟨n, o, none⟩)) s))))))
    | .array l e => onO 41 (P.info? e) (fun inf => onB 42 (Nat.ble (Nat.succ i) l) (onPtr v (fun n o => forceN (Nat.add o (Nat.mul i inf.size)) (fun o => k (.pointer (some ⟨n, o, none⟩)) s))))
    | _ => .fail 43)))))
noncomputable def idx (f : T Value) (x : Option Operand) (d : Nat) (k : Nat → R) : R := Option.rec (motive := fun _ => R) (k d) (fun x => onO 44 (ev x f) (fun v => onInt v (fun _ i => onNat i (fun n => forceN n k)))) x
noncomputable def forceV (v : Value) (k : Value → R) : R := onSl v (fun a l c => onPlace a (fun n o q => forceN o (fun o => forceN l (fun l => forceN c (fun c => k (.slice (some ⟨n, o, q⟩) l c))))))
noncomputable def xSlice (_o : Oper) (ty : TypeId) (x : Operand) (lo hi mx : Option Operand) (f : T Value) (s : St) (k : K) : R :=
  onO 45 (ev x f) (fun v => Value.casesOn (motive_1 := fun _ => R) v (fun _ => .fail 45) (fun _ _ => .fail 45) (fun _ _ => .fail 45) (fun _ _ _ => .fail 45) (fun b => onO 45 (P.underlying ty) (fun d => match d, mx with
      | .string, none => idx f lo 0 (fun l => idx f hi b.size (fun h => onB 45 (Nat.ble l h) (onB 45 (Nat.ble h b.size) (canonL (takeL (dropL b.data.toList l) (Nat.sub h l)) (fun l => k (.string ⟨⟨l⟩⟩) s)))))
      | _, _ => .fail 45)) (fun _ => onPtr v (fun n q => onO 46 (arrOf P ty) (fun ne => onO 46 (P.info? ne.2) (fun inf => idx f lo 0 (fun l => idx f hi ne.1 (fun h => idx f mx ne.1 (fun m =>
      onB 46 (Nat.ble l h) (onB 46 (Nat.ble h m) (onB 46 (Nat.ble m ne.1) (onB 46 (Bool.rec (motive := fun _ => Bool) true (Option.isSome hi) (Option.isSome mx)) (forceV (cutFx n q inf.size l h m) (fun v => k v s))))))))))))
    (fun a len cp => onO 47 (sliceOf P ty) (fun e => onO 47 (P.info? e) (fun inf => onPlace a (fun n b q =>
      idx f lo 0 (fun l => idx f hi len (fun h => onB 48 (Nat.ble l h)
        (Option.rec (motive := fun _ => R)
          (onB 49 (Nat.ble h cp) (Option.rec (motive := fun _ => R) (forceV (cutA n b inf.size l h cp) (fun v => k v s)) (fun q => onB 50 (Nat.beq q 0) (forceV (cutFx n b inf.size l h cp) (fun v => k v s))) q))
          (fun y => onB 51 (Option.isSome hi) (idx f (some y) cp (fun m => onB 52 (Nat.ble h m) (onB 53 (Nat.ble m cp) (onB 54 (Nat.beq (spotN q) 0) (forceV (cutFx n b inf.size l h m) (fun v => k v s)))))))
          mx)))))))
    (fun _ => .fail 45) (fun _ => .fail 45) (fun _ _ _ => .fail 45) (.fail 45) (fun _ _ => .fail 45) (.fail 45) (fun _ => .fail 45) (fun _ => .fail 45))
noncomputable def xPart (x : Operand) (p : Array Value → Option Value) (f : T Value) (s : St) (k : K) : R := onO 55 (ev x f) (fun v => onAgg v (fun cs => onO 55 (p cs) (fun v => k v s)))
noncomputable def xFieldV (ty : TypeId) (x : Operand) (i : Nat) (f : T Value) (s : St) (k : K) : R := onO 56 (fieldOf P ty i) (fun fd => xPart x (fun cs => partA P fd.type cs fd.offset) f s k)
noncomputable def xIndexV (o : Oper) (ty : TypeId) (x y : Operand) (f : T Value) (s : St) (k : K) : R := Option.rec (motive := fun _ => R) (slowOp P o f s k) (fun p => onO 57 (P.info? p.2) (fun inf => onO 57 (ev y f) (fun iv => onInt iv (fun _ i => onNat i (fun i => onB 58 (Nat.ble (Nat.succ i) p.1) (xPart x (fun cs => partA P p.2 cs (Nat.mul i inf.size)) f s k)))))) (arrOf P ty)
noncomputable def placesOf (ty : TypeId) : Option (Array (Nat × Nat)) := match structOf P ty with
  | some fs => runPure P (fs.mapM fun fd => do pure (fd.offset, ← sizeOf fd.type))
  | none => none
noncomputable def xBuild (ty : TypeId) (ps : Array (Nat × Operand)) (f : T Value) (s : St) (k : K) : R :=
  onO 59 (P.info? ty) (fun i => onO 59 i.zero (fun z => onB 59 (flat z) (onO 60 (evp f ps.toList) (fun vs => onO 59 (P.underlying ty) (fun d => match d with
    | .struct _ => onO 61 (placesOf P ty) (fun pl => onO 61 (Instr.fill (pl[·]?) z.cells vs) (fun cells => k (.agg cells) s))
    | .array _ e => onO 62 (P.info? e) (fun ie => onO 62 (Instr.fill (fun i => some (i * ie.size, ie.size)) z.cells vs) (fun cells => k (.agg cells) s))
    | _ => .fail 63)))))
noncomputable def rowOf (z : Value) (n : Nat) : Array Value := (Array.range n).map (z.cells[· % z.cells.size]!)
noncomputable def xBuildSlice (ty : TypeId) (n : Nat) (ps : Array (Nat × Operand)) (f : T Value) (s : St) (k : K) : R :=
  onO 64 (sliceOf P ty) (fun e => onO 64 (P.info? e) (fun ie => Bool.rec (motive := fun _ => R)
    (onO 64 ie.zero (fun z => onB 65 (Nat.ble (n * ie.size) 16777216) (onB 66 ((rowOf z (n * ie.size)).toList.all flat) (onB 66 (bnot (Nat.beq (n * ie.size) 0)) (onO 67 (evp f ps.toList) (fun vs =>
      onO 68 (Instr.fill (fun i => some (i * ie.size, ie.size)) (rowOf z (n * ie.size)) vs) (fun cells => newS s (.cells (ofL cells.toList) cells.size e ie.size 0) (fun m s => k (.slice (some ⟨m, 0, none⟩) n n) s))))))))
    (onB 69 ps.toList.isEmpty (newS s (.cells .leaf 0 e ie.size 0) (fun m s => k (.slice (some ⟨m, 0, none⟩) 0 0) s)))
    (Nat.beq n 0)))
noncomputable def xMakeMap (r : Option Operand) (s : St) (k : K) : R := Option.rec (motive := fun _ => R) (newS s (.map [] 0) (fun n s => k (.map (some n)) s)) (fun _ => .fail 70) r
noncomputable def keyIs (u : Value) (kk : IntKind) (z : Int) : Bool := match u with
  | .int k' z' => band (sameKind k' kk) (intEq z' z)
  | _ => false
noncomputable def keyOf (u : Value) (kk : IntKind) : Bool := match u with
  | .int k' _ => sameKind k' kk
  | _ => false
noncomputable def findP (kk : IntKind) (z : Int) (es : List MapEntry) : Option (Nat × Value) := List.rec (motive := fun _ => Option (Nat × Value)) none (fun e _ ih => Bool.rec (motive := fun _ => Option (Nat × Value)) ih (some (0, e.val)) (keyIs e.key kk z)) es
noncomputable def allK (kk : IntKind) (es : List MapEntry) : Bool := List.rec (motive := fun _ => Bool) true (fun e _ ih => band (keyOf e.key kk) ih) es
noncomputable def xLookup (ty : TypeId) (x ix : Operand) (ok : Bool) (f : T Value) (s : St) (k : K) : R :=
  onO 71 (mapOf P ty) (fun ke => onO 71 (P.info? ke.2) (fun ie => onO 71 ie.zero (fun z => onB 71 (flat z) (onO 72 (ev x f) (fun v => onO 72 (ev ix f) (fun kv => onB 73 (flat kv) (onMap v (fun m =>
    Option.rec (motive := fun _ => R)
      (onO 74 (runPure P (Instr.checkKey true 10000 ke.1 kv)) (fun _ => onO 74 (runPure P (Instr.findKey ke.1 kv [])) (fun r => Option.rec (motive := fun _ => R) (k (lookR ok z none) s) (fun _ => .fail 74) r)))
      (fun n => onEntsP s n (fun es _ => onO 75 (P.underlying ke.1) (fun _ => onO 75 (runPure P (Instr.checkKey es.isEmpty 10000 ke.1 kv)) (fun _ => onO 76 (runPure P (Instr.findKey ke.1 kv es)) (fun r => k (lookR ok z r) s))))
        (fun es => onO 75 (P.underlying ke.1) (fun kd => match kd, kv with
          | .int _, .int kk zz => onB 75 (allK kk es) (k (lookR ok z (findP kk zz es)) s)
          | _, _ => .fail 75)))
      m))))))))
noncomputable def xUpdate (ty : TypeId) (m ky x : Operand) (f : T Value) (s : St) (k : K) : R :=
  onO 77 (mapOf P ty) (fun ke => onO 77 (P.underlying ke.1) (fun _ => onO 78 (ev m f) (fun mv => onO 78 (ev ky f) (fun kv => onB 79 (flat kv) (onO 78 (ev x f) (fun v => onMap mv (fun n => onO 80 n (fun n => onEnts s n (fun es clock =>
    onO 81 (runPure P (Instr.checkKey false 10000 ke.1 kv)) (fun _ => onO 82 (runPure P (Instr.findKey ke.1 kv es)) (fun r => Option.rec (motive := fun _ => R)
      (setS s n (.map (es ++ [⟨kv, v, clock⟩]) (clock + 1)) (fun s => k undef s))
      (fun r => onO 83 (es[r.1]?) (fun e0 => onB 84 (Instr.sameBits 10000 e0.key kv) (setS s n (.map (setE kv v es r.1) clock) (fun s => k undef s)))) r)))))))))))
noncomputable def xRange (ty : TypeId) (x : Operand) (f : T Value) (s : St) (k : K) : R :=
  onO 85 (ev x f) (fun v => onO 85 (P.underlying ty) (fun d => match d, v with
    | .string, .string b => newS s (.iter b 0) (fun n s => k (.pointer (some ⟨n, 0, none⟩)) s)
    | .map _ _, .map (some n) => onEnts s n (fun _ clock => newS s (.mapIter n clock [] clock) (fun n s => k (.pointer (some ⟨n, 0, none⟩)) s))
    | _, _ => .fail 86))
noncomputable def xNext (it : Operand) (str : Bool) (f : T Value) (s : St) (k : K) : R :=
  onO 87 (ev it f) (fun v => onPtr v (fun n o => onB 87 (Nat.beq o 0) (onO 88 (s.h.get n) (fun a => match a, str with
    | .iter b pos, true => match nextS b pos with
      | (v, p) => forceN p (fun p => setS s n (.iter b p) (fun s => k v s))
    | .mapIter q since seen last, false => onEnts s q (fun es clock => match es, seen with
      | [], _ => k (.tuple #[.bool false]) s
      | [e], [] => onB 89 (Nat.ble (e.born + 1) since) (setS s n (.mapIter q since [e.born] clock) (fun s => k (.tuple #[.bool true, e.key, e.val]) s))
      | [e], [b] => onB 90 (Nat.beq b e.born) (onB 90 (Nat.ble (e.born + 1) last) (k (.tuple #[.bool false]) s))
      | _, _ => .fail 91)
    | _, _ => .fail 92))))
noncomputable def xEntry (it : Operand) (f : T Value) (s : St) (k : K) : R :=
  onO 137 (ev it f) (fun v => onPtr v (fun n o => onB 137 (Nat.beq o 0) (onO 137 (s.h.get n) (fun a => match a with
    | .mapIter q _ [b] last => onEnts s q (fun es clock => match es with
      | [e] => onB 137 (Nat.beq b e.born) (onB 137 (Nat.beq clock last) (k (.tuple #[e.key, e.val]) s))
      | _ => .fail 137)
    | _ => .fail 137))))
noncomputable def xAssert (x : Operand) (t : TypeId) (ok : Bool) (f : T Value) (s : St) (k : K) : R :=
  onO 93 (ev x f) (fun v => onIface v (fun t' v => onB 94 (Nat.beq t' t) (onO 94 (P.underlying t) (fun d => onB 94 (bnot (isIfaceD d)) (Bool.rec (motive := fun _ => R) (k v s) (k (.tuple #[v, .bool true]) s) ok)))))
noncomputable def cmpOp (o : Oper) (t : TypeId) (x y : Operand) (neg : Bool) (f : T Value) (s : St) (k : K) : R :=
  onO 95 (P.underlying t) (fun d => onO 95 (ev x f) (fun u => onO 95 (ev y f) (fun z => Option.rec (motive := fun _ => R) (slowOp P o f s k) (fun r => Bool.rec (motive := fun _ => R) (mkBool r (fun v => k v s)) (mkBool (bnot r) (fun v => k v s)) neg) (nilCmp P d u z))))
noncomputable def isCmp (op : BinOp) : Option Bool := match op with
  | .eql => some false
  | .neq => some true
  | _ => none
noncomputable def xBin (o : Oper) (op : BinOp) (t : TypeId) (x y : Operand) (f : T Value) (s : St) (k : K) : R :=
  onO 96 (ev x f) (fun u => onO 96 (ev y f) (fun z => intOp op u z (shOp op u z (strOp op u z (Option.rec (motive := fun _ => R) (slowOp P o f s k) (fun neg => cmpOp P o t x y neg f s k) (isCmp op)) (fun v => k v s)) (fun v => k v s)) (fun v => k v s)))
noncomputable def xUn (o : Oper) (op : UnOp) (x : Operand) (f : T Value) (s : St) (k : K) : R :=
  onO 97 (ev x f) (fun v => match op, v with
    | .not, .bool b => mkBool (bnot b) (fun v => k v s)
    | _, _ => slowOp P o f s k)
noncomputable def xLen (o : Oper) (t : TypeId) (x : Operand) (f : T Value) (s : St) (k : K) : R :=
  onO 98 (P.underlying t) (fun d => onO 98 (ev x f) (fun v => match d, v with
    | .slice _, .slice _ l _ => mkInt .i64 l (fun v => k v s)
    | .map _ _, .map (some n) => onEnts s n (fun es _ => mkInt .i64 es.length (fun v => k v s))
    | _, _ => slowOp P o f s k))
noncomputable def xAppend (t0 t1 : TypeId) (x y : Operand) (f : T Value) (s : St) (k : K) : R :=
  onO 100 (sliceOf P t0) (fun elem => onO 100 (P.underlying t1) (fun d1 => onB 100 (bnot (isIntD d1)) (onO 100 (P.info? elem) (fun inf => onO 100 inf.zero (fun z => onB 100 (Nat.beq z.cells.size inf.size) (onB 100 (Nat.ble inf.bytes 1048576)
    (onO 101 (ev x f) (fun v => onO 101 (ev y f) (fun u => onO 102 (srcA s inf.size u) (fun r => onSl v (fun b l cp => forceN r.1 (fun q =>
      Bool.rec (motive := fun _ => R)
        (onB 103 (allOne r.2) (Option.rec (motive := fun _ => R)
          (onB 104 (Nat.beq l 0) (onB 104 (Nat.beq cp 0) (onB 104 (Nat.ble q 1048576) (newS s (.cells (ofL r.2) (Nat.mul q inf.size) elem inf.size 0) (fun n s => k (.slice (some ⟨n, 0, none⟩) q q) s)))))
          (fun a => Addr.rec (motive := fun _ => R) (fun n o spot => onCells s n (fun t m e sz fz =>
            Option.rec (motive := fun _ => R)
              (Bool.rec (motive := fun _ => R)
                (onB 105 (Nat.beq e elem) (onB 105 (Nat.beq sz inf.size) (onB 105 (Nat.ble l cp) (onB 105 (Nat.ble (Nat.add l q) 1048576) (onB 105 (Nat.ble fz (Nat.add o (Nat.mul l inf.size))) (onB 105 (Nat.beq m (Nat.add o (Nat.mul cp inf.size))) (onB 105 (bnot (Nat.beq inf.size 0))
                  (onO 106 (growT t o (Nat.mul l inf.size) r.2) (fun nt => forceN (Nat.add l q) (fun lq =>
                    newS ⟨s.h.del n, s.nx⟩ (.cells nt (Nat.mul lq inf.size) elem inf.size (Nat.sub fz o)) (fun n s => k (.slice (some ⟨n, 0, none⟩) lq lq) s)))))))))))
                (onB 107 (Nat.ble fz (Nat.add o (Nat.mul l inf.size))) (onB 107 (Nat.ble (Nat.add (Nat.add o (Nat.mul l inf.size)) (Nat.mul q inf.size)) m)
                  (forceN (Nat.add l q) (fun lq => setS s n (.cells (writeF r.2 t (Nat.add o (Nat.mul l inf.size))) m e sz fz) (fun s => k (.slice (some ⟨n, o, none⟩) lq cp) s)))))
                (Nat.ble (Nat.add l q) cp))
              (fun spot => Bool.rec (motive := fun _ => R) (.fail 108)
                (onB 109 (Nat.ble (Nat.succ cp) (Nat.add l q)) (onB 109 (Nat.ble (Nat.add l q) 1048576) (onB 109 (Nat.ble (Nat.add o (Nat.mul l inf.size)) m)
                  (onO 106 (growT t o (Nat.mul l inf.size) r.2) (fun nt => forceN (Nat.add l q) (fun lq =>
                    newS s (.cells nt (Nat.mul lq inf.size) elem inf.size 0) (fun n s => k (.slice (some ⟨n, 0, none⟩) lq lq) s)))))))
                (Nat.beq spot 0))
              spot)) a)
          b))
        (onB 110 r.2.isEmpty (onB 110 (Nat.ble l cp) (k v s)))
        (Nat.beq q 0)))))))))))))
noncomputable def xDelete (ty : TypeId) (m ky : Operand) (f : T Value) (s : St) (k : K) : R :=
  onO 111 (mapOf P ty) (fun ke => onO 111 (P.underlying ke.1) (fun _ => onO 111 (ev m f) (fun mv => onO 111 (ev ky f) (fun kv => onB 112 (flat kv) (onMap mv (fun n => onO 112 n (fun n => onEnts s n (fun es clock =>
    onO 113 (runPure P (Instr.checkKey es.isEmpty 10000 ke.1 kv)) (fun _ => onO 114 (runPure P (Instr.findKey ke.1 kv es)) (fun r => setS s n (.map (leftE es r) clock) (fun s => k (.tuple #[]) s)))))))))))
noncomputable def xClear (ty : TypeId) (x : Operand) (f : T Value) (s : St) (k : K) : R :=
  onO 115 (sliceOf P ty) (fun e => onO 115 (P.info? e) (fun inf => onO 115 inf.zero (fun z => onO 116 (ev x f) (fun v => onSl v (fun a l _ => Nat.rec (motive := fun _ => R) (.fail 119) (fun l _ => onPlace a (fun n o q => onB 117 (Option.isNone q) (onCells s n (fun t m e2 sz fz =>
    onB 118 ((Builtin.zeroCells z.cells (l + 1)).toList.all flat) (onB 118 ((Builtin.zeroCells z.cells (l + 1)).toList.all (·.oneCell')) (onB 118 (Nat.ble fz o) (onB 118 (Nat.ble (o + (Builtin.zeroCells z.cells (l + 1)).toList.length) m)
      (setS s n (.cells (writeF (Builtin.zeroCells z.cells (l + 1)).toList t o) m e2 sz fz) (fun s => k (.tuple #[]) s))))))))) l)))))
noncomputable def xMakeSlice (ty : TypeId) (x y : Operand) (f : T Value) (s : St) (k : K) : R :=
  onO 170 (sliceOf P ty) (fun e => onO 170 (P.info? e) (fun ie => onO 170 ie.zero (fun z => onO 171 (ev x f) (fun v => onO 171 (ev y f) (fun u => onInt v (fun _ l => onInt u (fun _ c => onNat l (fun l => onNat c (fun c => forceN l (fun l => forceN c (fun c =>
    onB 172 (Nat.ble l c) (onB 172 (Nat.ble (Nat.mul ie.bytes c) 1048576) (onB 172 (Nat.ble c 1048576) (onB 173 ((rowOf z (c * ie.size)).toList.all flat) (onB 173 (bnot (Nat.beq (Nat.mul c ie.size) 0))
      (newS s (.cells (ofL (rowOf z (c * ie.size)).toList) (rowOf z (c * ie.size)).size e ie.size 0) (fun n s => k (.slice (some ⟨n, 0, none⟩) l c) s)))))))))))))))))
noncomputable def xMapEntry (ty : TypeId) (m ky : Operand) (f : T Value) (s : St) (k : K) : R :=
  onO 174 (mapOf P ty) (fun ke => onO 174 (P.underlying ke.1) (fun _ => onO 174 (P.info? ke.2) (fun ie => onO 174 ie.zero (fun z => onB 174 (flat z) (onO 175 (ev m f) (fun mv => onO 175 (ev ky f) (fun kv => onB 175 (flat kv) (onMap mv (fun n => onO 176 n (fun n => onEnts s n (fun es clock =>
    onO 177 (runPure P (Instr.checkKey false 10000 ke.1 kv)) (fun _ => onO 178 (runPure P (Instr.findKey ke.1 kv es)) (fun r => Option.rec (motive := fun _ => R)
      (setS s n (.map (es ++ [⟨kv, z, clock⟩]) (clock + 1)) (fun s => k (.tuple #[z, .int .i64 clock]) s))
      (fun r => onO 179 (es[r.1]?) (fun e0 => onB 180 (Instr.sameBits 10000 e0.key kv) (onB 180 (veq e0.val r.2) (setS s n (.map (setE kv r.2 es r.1) clock) (fun s => k (.tuple #[r.2, .int .i64 e0.born]) s))))) r)))))))))))))
noncomputable def findBorn (b : Nat) : List MapEntry → Nat → Option Nat
  | [], _ => none
  | e :: es, i => match Nat.beq e.born b with
    | true => some i
    | false => findBorn b es (i + 1)
def setB (v : Value) : List MapEntry → Nat → List MapEntry
  | [], _ => []
  | e :: es, 0 => { e with val := v } :: es
  | e :: es, i + 1 => e :: setB v es i
noncomputable def xEntryStore (m st x : Operand) (f : T Value) (s : St) (k : K) : R :=
  onO 181 (ev m f) (fun mv => onO 181 (ev st f) (fun bv => onO 181 (ev x f) (fun v => onMap mv (fun n => onO 182 n (fun n => onInt bv (fun _ b => onNat b (fun b => onEnts s n (fun es clock =>
    onO 183 (findBorn b es 0) (fun i => setS s n (.map (setB v es i) clock) (fun s => k undef s))))))))))
noncomputable def xConv (o : Oper) (a b : TypeId) (x : Operand) (f : T Value) (s : St) (k : K) : R :=
  onO 184 (ev x f) (fun v => match v with
    | .pointer (some ⟨n, q, none⟩) => onO 184 (P.underlying a) (fun da => onO 184 (P.underlying b) (fun db => onCells s n (fun _ m e sz _ => match da, db with
      | .pointer t', .unsafePointer => onO 184 (P.info? t') (fun j => onB 184 (bnot (Nat.beq j.size 0)) (onB 184 (Nat.ble (Nat.succ q) m) (k v s)))
      | .unsafePointer, .pointer t' => onO 185 (P.info? t') (fun _ => onB 185 (Nat.beq sz 0) (onB 185 (liesAt P P.depth e (m / P.cellsOf e) q t' 1) (k v s)))
      | _, _ => .fail 184)))
    | .slice (some ⟨n, q, sp⟩) l _ => onO 186 (P.underlying a) (fun da => onO 186 (P.underlying b) (fun db => match da, db with
      | .slice t', .string => onO 186 (P.underlying t') (fun dt => match dt with
        | .int .u8 => onB 186 (Nat.ble (spotN sp) 0) (onCells s n (fun t m _ _ _ => onB 186 (Nat.ble (Nat.add q l) m) (onO 186 (readF t q l) (fun vs => onO 186 (bytesV vs) (fun bs => canonB ⟨bs.toArray⟩ (fun b => k (.string b) s))))))
        | _ => .fail 186)
      | _, _ => .fail 186))
    | .int _ (.ofNat n) => onO 184 (P.underlying a) (fun _ => onO 184 (P.underlying b) (fun db => match db with
      | .int i => wrapN i n (slowOp P o f s k) (fun v => k v s)
      | _ => slowOp P o f s k))
    | _ => slowOp P o f s k)
noncomputable def xSliceData (o : Oper) (x : Operand) (f : T Value) (s : St) (k : K) : R :=
  onO 189 (ev x f) (fun v => match v with
    | .slice (some ⟨n, q, none⟩) _ c => Nat.casesOn (motive := fun _ => R) c (.fail 189) (fun _ => k (.pointer (some ⟨n, q, none⟩)) s)
    | _ => slowOp P o f s k)
noncomputable def mx (a b : Nat) : Nat := Bool.rec (motive := fun _ => Nat) a b (Nat.ble a b)
noncomputable def ptrOf (t : TypeId) : Option TypeId := match P.underlying t with
  | some (.pointer e) => some e
  | _ => none
noncomputable def xUStr (t : TypeId) (x y : Operand) (f : T Value) (s : St) (k : K) : R :=
  onO 193 (ptrOf P t) (fun el => onO 193 (ev x f) (fun v => onO 193 (ev y f) (fun u => match v, u with
    | .pointer p, .int .i64 (.ofNat l) => Nat.casesOn (motive := fun _ => R) l (k (.string .empty) s) (fun l' => onPtr (.pointer p) (fun n q => onCells s n (fun tr m e sz fz =>
        onB 194 (Nat.beq el e) (onB 194 (Nat.beq (P.cellsOf e) 1) (onB 194 (Nat.ble (Nat.succ l') 1048576) (onB 194 (Nat.ble (Nat.add q (Nat.succ l')) m) (onO 195 (readF tr q (Nat.succ l')) (fun vs => onO 195 (bytesV vs) (fun bs =>
          forceN (mx fz (Nat.add q (Nat.succ l'))) (fun fz => canonB ⟨bs.toArray⟩ (fun b => setS s n (.cells tr m e sz fz) (fun s => k (.string b) s))))))))))))
    | _, _ => .fail 193)))
noncomputable def xCopy (o : Oper) (t : TypeId) (x y : Operand) (f : T Value) (s : St) (k : K) : R :=
  onO 190 (sliceOf P t) (fun elem => onO 190 (P.info? elem) (fun inf => onO 190 (ev x f) (fun v => match v with
    | .slice (some ⟨n, q, sp⟩) dl _ => onB 190 (Nat.ble (spotN sp) 0) (onO 190 (ev y f) (fun u => onO 191 (srcA s inf.size u) (fun r => onB 192 (Nat.ble r.1 dl) (onB 192 (allOne r.2) (onCells s n (fun tr m e sz fz =>
        onB 192 (Nat.ble fz q) (onB 192 (Nat.ble (Nat.add q (Nat.mul r.1 inf.size)) m) (forceN r.1 (fun j => setS s n (.cells (writeF r.2 tr q) m e sz fz) (fun s => k (.int .i64 (.ofNat j)) s))))))))))
    | _ => slowOp P o f s k)))
noncomputable def xExtF (c : Call) (g : FuncId) (f : T Value) (s : St) (k : K) : R := onO 196 (evs f c.args.toList) (fun vs => onO 197 (extFlat P g vs) (fun v => canonV v (fun v => k v s)))
noncomputable def xExt (c : Call) (g : FuncId) (fs cs : Array Value) (f : T Value) (s : St) (k : K) : R :=
  match fs.toList, cs.toList with
  | [], [] => match c.args.toList with
    | [y] => match extIs P g "internal/abi.NoEscape" with
      | some _ => onO 187 (ev y f) (fun v => k v s)
      | none => match extIs P g "internal/bytealg.MakeNoZero" with
        | some fn => match fn.resultTypes.toList with
          | [t] => onO 188 (sliceOf P t) (fun elem => onO 188 (ev y f) (fun v => match v with
            | .int .i64 (.ofNat l) => onB 188 (Nat.ble l 1048576) (forceN l (fun l => newS s (.cells .leaf l elem 1 0) (fun n s => k (.slice (some ⟨n, 0, none⟩) l l) s)))
            | _ => .fail 188))
          | _ => .fail 188
        | none => xExtF P c g f s k
    | _ => xExtF P c g f s k
  | _, _ => .fail 187
noncomputable def onCR (c : CR) (k : Value → St → R) : R := CR.rec (motive := fun _ => R) (fun n => .fail n) k c
noncomputable def enter (cl : Cl) (g : FuncId) (vs : List Value) (s : St) (k : K) : R := onB 120 (enterOk P g) (onCR (cl false g vs s) k)
noncomputable def xCall (cl : Cl) (o : Oper) (c : Call) (f : T Value) (s : St) (k : K) : R :=
  Callee.rec (motive := fun _ => R)
    (fun x => onO 121 (ev x f) (fun v => onFun v (fun g fs cs => Bool.rec (motive := fun _ => R) (xExt P c g fs cs f s k) (onO 122 (evs f c.args.toList) (fun vs => enter P cl g (app fs.toList (app vs cs.toList)) s k)) (enterOk P g)) (fun l => onO 122 (evs f c.args.toList) (fun vs => onCR (cl true l vs s) k))))
    (fun x m => onO 123 (ev x f) (fun v => onIface v (fun t v => onO 124 (methodOk P t m) (fun g => onO 125 (evs f c.args.toList) (fun vs => enter P cl g (v :: vs) s k)))))
    (fun b => match b, c.args.toList, c.argTypes.toList with
      | .len, [x], [t] => xLen P o t x f s k
      | .append, [x, y], [t0, t1] => xAppend P t0 t1 x y f s k
      | .delete, [m, ky], t :: _ => xDelete P t m ky f s k
      | .clear, [x], [t] => xClear P t x f s k
      | .min, _, _ => slowOp P o f s k
      | .cap, _, _ => slowOp P o f s k
      | .unsafeSliceData, [x], _ => xSliceData P o x f s k
      | .unsafeString, [x, y], t :: _ => xUStr P t x y f s k
      | .copy, [x, y], t :: _ => xCopy P o t x y f s k
      | .max, _, _ => slowOp P o f s k
      | _, _, _ => .fail 126)
    c.callee
noncomputable def quiet (o : Oper) : Bool := match o.op with
  | .move _ | .pick .. | .build .. | .load .. | .nilCheck _ | .binOp .. | .unOp .. | .convert .. | .makeInterface .. | .makeFunc .. | .slice .. | .fieldAddr .. | .field .. | .indexAddr .. | .index .. | .lookup .. | .typeAssert .. | .extract .. => true
  | .call c => match c.callee with
    | .builtin .len => true
    | .builtin .min => true
    | .builtin .cap => true
    | .builtin .unsafeSliceData => true
    | .builtin .max => true
    | _ => false
  | _ => false
inductive OpF where
  | mk (r : Cl → T Value → St → K → R)
noncomputable def xOpT (op : Op) : Program → Oper → OpF :=
  Op.rec (motive := fun _ => Program → Oper → OpF)
    (fun x _P _o => .mk (fun _cl f s k => xMove x f s k))
    (fun x _P _o => .mk (fun _cl f s k => xMove x f s k))
    (fun c x y _P _o => .mk (fun _cl f s k => xPick c x y f s k))
    (fun t P _o => .mk (fun _cl _f s k => xAlloc P t s k))
    (fun t x _P _o => .mk (fun _cl f s k => xBox t x f s k))
    (fun t ps P _o => .mk (fun _cl f s k => xBuild P t ps f s k))
    (fun t n ps P _o => .mk (fun _cl f s k => xBuildSlice P t n ps f s k))
    (fun t m ky x P _o => .mk (fun _cl f s k => xUpdate P t m ky x f s k))
    (fun t x P _o => .mk (fun _cl f s k => xLoad P t x f s k))
    (fun t x y P _o => .mk (fun _cl f s k => xStore P t x y f s k))
    (fun _ _P _o => .mk (fun _cl _f _s _k => .fail 130))
    (fun _ _P _o => .mk (fun _cl _f _s _k => .fail 131))
    (fun x _P _o => .mk (fun _cl f s k => xNil x f s k))
    (fun op t x y _ P o => .mk (fun _cl f s k => xBin P o op t x y f s k))
    (fun op _ x P o => .mk (fun _cl f s k => xUn P o op x f s k))
    (fun a b x P o => .mk (fun _cl f s k => xConv P o a b x f s k))
    (fun _ _ _P _o => .mk (fun _cl _f _s _k => .fail 132))
    (fun t x P _o => .mk (fun _cl f s k => xIface P t x f s k))
    (fun g xs ys _P _o => .mk (fun _cl f s k => xFunc g xs ys f s k))
    (fun _ r _P _o => .mk (fun _cl _f s k => xMakeMap r s k))
    (fun _ _ _P _o => .mk (fun _cl _f _s _k => .fail 133))
    (fun t x y P _o => .mk (fun _cl f s k => xMakeSlice P t x y f s k))
    (fun t x lo hi mx P o => .mk (fun _cl f s k => xSlice P o t x lo hi mx f s k))
    (fun t x i P _o => .mk (fun _cl f s k => xField P t x i f s k))
    (fun t x i P _o => .mk (fun _cl f s k => xFieldV P t x i f s k))
    (fun t x y P _o => .mk (fun _cl f s k => xIndexAddr P t x y f s k))
    (fun t x y P o => .mk (fun _cl f s k => xIndexV P o t x y f s k))
    (fun t x ix ok P _o => .mk (fun _cl f s k => xLookup P t x ix ok f s k))
    (fun t m ky x P _o => .mk (fun _cl f s k => xUpdate P t m ky x f s k))
    (fun t m ky P _o => .mk (fun _cl f s k => xMapEntry P t m ky f s k))
    (fun _ m st x _P _o => .mk (fun _cl f s k => xEntryStore m st x f s k))
    (fun t x P _o => .mk (fun _cl f s k => xRange P t x f s k))
    (fun it str _P _o => .mk (fun _cl f s k => xNext it str f s k))
    (fun it _P _o => .mk (fun _cl f s k => xEntry it f s k))
    (fun x _ t ok P _o => .mk (fun _cl f s k => xAssert P x t ok f s k))
    (fun x i _P _o => .mk (fun _cl f s k => xExtract x i f s k))
    (fun c P o => .mk (fun cl f s k => xCall P cl o c f s k))
    (fun _ _P _o => .mk (fun _cl _f _s _k => .fail 138))
    (fun _ _P _o => .mk (fun _cl _f _s _k => .fail 139))
    (fun _ _P _o => .mk (fun _cl _f _s _k => .fail 140))
    (fun _ _ _P _o => .mk (fun _cl _f _s _k => .fail 141))
    (fun _ _ _ _P _o => .mk (fun _cl _f _s _k => .fail 142))
    (fun _ _ _P _o => .mk (fun _cl _f _s _k => .fail 143))
    op
noncomputable def xOpF (o : Oper) : OpF := xOpT o.op P o
noncomputable def xOp (cl : Cl) (o : Oper) (f : T Value) (s : St) (k : K) : R := OpF.rec (motive := fun _ => R) (fun r => r cl f s k) (xOpF P o)
end
end Go.Proofs.YthdjicolicokcaaGreatDoor.Ev
