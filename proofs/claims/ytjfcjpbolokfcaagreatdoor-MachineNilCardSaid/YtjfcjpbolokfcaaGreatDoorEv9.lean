/-
  An evaluator for closed runs: the operations (5: append).
-/
import Derived.Test.YtjfcjpbolokfcaaGreatDoorEv8
namespace Go.Proofs.YtjfcjpbolokfcaaGreatDoor.Ev
open Go

theorem ba_whole (b : ByteArray) : (b.extract 0 b.size).data = b.data := by
  rw [ByteArray.data_extract]
  exact Array.extract_size
def isIntD : TypeDesc → Bool
  | .int _ => true
  | _ => false
/-- The cells of what is appended: a slice, or a string. -/
noncomputable def srcA (s : St) (size : Nat) (x : Value) : Option (Nat × List Value) := match x with
  | .slice none 0 0 => some (0, [])
  | .slice (some _) 0 _ => some (0, [])
  | .slice (some ⟨n, k, _⟩) l _ => match s.h.get n with
    | some (.cells t m _ _ _) => match Nat.ble (k + l * size) m with
      | true => match readF t k (l * size) with
        | some vs => some (l, vs)
        | none => none
      | false => none
    | _ => none
  | .string b => match Nat.beq size 1 with
    | true => some (b.size, b.data.toList.map fun c => .int .u8 c.toNat)
    | false => none
  | _ => none
theorem srcA_sim (P : Program) {ρ : Nat → Nm} {s : St} {w : World} (hr : SR ρ s w) {size l : Nat} {x u : Value} {vs : List Value} (h : srcA s size x = some (l, vs)) (hx : VR ρ s.nx x u) : (Builtin.lenOf u).run P w = .ok l w ∧ ∃ us : List Value, us.length = vs.length ∧ vs.length = l * size ∧ (Builtin.firstCells size l u).run P w = .ok us.toArray w ∧ AR ρ s.nx vs.toArray us.toArray := by
  unfold srcA at h
  split at h
  · simp only [Option.some.injEq, Prod.mk.injEq] at h
    obtain ⟨rfl, rfl⟩ := h
    cases hx
    exact ⟨rfl, [], rfl, by simp, rfl, rfl, fun i x y hx => by simp at hx⟩
  · simp only [Option.some.injEq, Prod.mk.injEq] at h
    obtain ⟨rfl, rfl⟩ := h
    have hz : ∀ a : Addr, (loadCells a (0 * size)).run P w = .ok ([] : List Value).toArray w := fun a => by
      rw [Nat.zero_mul]
      rfl
    cases hx with
    | sl => exact ⟨rfl, [], rfl, by simp, hz _, rfl, fun i x y hx => by simp at hx⟩
    | fx => exact ⟨rfl, [], rfl, by simp, hz _, rfl, fun i x y hx => by simp at hx⟩
    | tl => exact ⟨rfl, [], rfl, by simp, hz _, rfl, fun i x y hx => by simp at hx⟩
  · rename_i n k sp l' cp hl0
    split at h
    · rename_i _ t m e sz fz hn
      split at h
      · rename_i hle
        split at h
        · rename_i us hus
          simp only [Option.some.injEq, Prod.mk.injEq] at h
          obtain ⟨rfl, rfl⟩ := h
          obtain ⟨zs, h1, h2, h3⟩ := readF_sound hr hn (l' * size) k us (Nat.le_of_ble_eq_true hle) hus
          have h4 : us.length = zs.length := by simpa using h3.1
          have key : (loadCells ((ρ n).at k) (l' * size)).run P w = .ok zs.toArray w := by
            rw [← h1]
            exact run_loadCells_list w _ zs h2
          cases hx with
          | sl => exact ⟨rfl, zs, h4.symm, by omega, key, h3⟩
          | fx => exact ⟨rfl, zs, h4.symm, by omega, key, h3⟩
          | tl => exact (hl0 rfl).elim
        · cases h
      · cases h
    · cases h
  · rename_i b
    split at h
    · rename_i hs
      obtain rfl := Nat.eq_of_beq_eq_true hs
      simp only [Option.some.injEq, Prod.mk.injEq] at h
      obtain ⟨rfl, rfl⟩ := h
      cases hx
      refine ⟨rfl, b.data.toList.map fun c => .int .u8 c.toNat, rfl, by rw [List.length_map, Nat.mul_one]; rfl, ?_, rfl, fun i x y hx hy => ?_⟩
      · show Result.ok ((b.extract 0 b.size).data.map fun c => Value.int .u8 c.toNat) w = _
        rw [ba_whole]
        congr 1
        apply Array.ext'
        simp
      · obtain rfl := Option.some.inj (hx.symm.trans hy)
        have hm : x ∈ b.data.toList.map fun c => Value.int .u8 c.toNat := by
          have := Array.mem_of_getElem? hx
          simpa using this
        obtain ⟨c, _, rfl⟩ := List.mem_map.1 hm
        exact .int _ _
    · cases h
  · cases h
theorem growBy_le (n : Nat) : ∀ (r c : Nat), c < 2 * n + 1000 → n ≤ 2 ^ 40 → Builtin.growBy n r c ≤ 2 * n + 1000
  | 0, c, h, _ => by unfold Builtin.growBy; omega
  | r + 1, c, h, hn => by
    unfold Builtin.growBy
    split
    · omega
    · refine growBy_le n r _ ?_ hn
      omega
theorem nextcap_le {need cap : Nat} (h : cap < need) (hn : need ≤ 2 ^ 40) : Builtin.nextslicecap need cap ≤ 2 * need + 1000 := by
  unfold Builtin.nextslicecap
  split
  · omega
  · split
    · omega
    · exact growBy_le need 4 cap (by omega) hn
/-- What append is in the model, where nothing is odd. -/
theorem append_in_run {P : Program} {w : World} {t0 t1 elem ty : TypeId} {ats : Array TypeId} {d1 : TypeDesc} {inf : TypeInfo} {base : Option Addr} {l c n : Nat} {u : Value} {us : List Value} (ha0 : ats[0]? = some t0) (ha1 : ats[1]? = some t1) (h0 : P.underlying t0 = some (.slice elem)) (h1 : P.underlying t1 = some d1) (hd : isIntD d1 = false) (hi : P.info? elem = some inf)
    (hl : (Builtin.lenOf u).run P w = .ok n w) (hf : (Builtin.firstCells inf.size n u).run P w = .ok us.toArray w) (hc : l + n ≤ c) {w' : World} (hst : ∀ a, base = some a → (storeCells (a.add (l * inf.size)) us).run P w = .ok () w') (hb : base = none → w' = w) :
    (Builtin.append_ ats ty #[.slice base l c, u]).run P w = .ok (.slice base (l + n) c) w' := by
  have e0 : (#[Value.slice base l c, u] : Array Value)[0]? = some (.slice base l c) := rfl
  have e1 : (#[Value.slice base l c, u] : Array Value)[1]? = some u := rfl
  have hz : (underlying t1).run P w = .ok d1 w := run_und h1 w
  have key : ∀ (sem : Sem Value), (∀ a, base = some a → sem = (do storeCells (a.add (l * inf.size)) us; pure (.slice base (l + n) c))) → (base = none → sem = pure (.slice base (l + n) c)) → sem.run P w = .ok (.slice base (l + n) c) w' := fun sem s1 s2 => by
    cases base with
    | none => rw [s2 rfl, hb rfl]; rfl
    | some a => rw [s1 a rfl, Sem.run_bind, hst a rfl]; rfl
  unfold Builtin.append_
  cases d1 <;> first
    | (cases hd; done)
    | (simp only [ha0, e0, e1, ha1, Sem.run_bind, run_und h0, Result.andThen_ok, run_siz hi, hz, Sem.run_pure, Bool.false_eq_true, if_false, hl, hc, if_true, hf, Bool.not_false]
       refine key _ (fun a ha => ?_) (fun ha => ?_) <;> subst ha <;> rfl)
theorem zeroCells_size (z : Array Value) (n : Nat) : (Builtin.zeroCells z n).size = n * z.size := by simp [Builtin.zeroCells]
theorem askRoom_run (P : Program) (b : Nat) (w : World) : (askRoom b).run P w = .ok () w := by
  unfold askRoom
  split <;> rfl
theorem choose_run (P : Program) (need old : Nat) (e : TypeId) (w : World) : ∃ nc, need ≤ nc ∧ (choose (.appendCap need old e)).run P w = .ok nc { w with drawn := w.drawn + 1 } :=
  ⟨(Question.appendCap need old e).cut (w.tape w.drawn (.appendCap need old e)), by simp only [Question.cut]; omega, rfl⟩
theorem append_new_run {P : Program} {w : World} {t0 t1 elem ty : TypeId} {ats : Array TypeId} {d1 : TypeDesc} {inf : TypeInfo} {z : Value} {base : Option Addr} {l c n : Nat} {u : Value} {os us : List Value} (ha0 : ats[0]? = some t0) (ha1 : ats[1]? = some t1) (h0 : P.underlying t0 = some (.slice elem)) (h1 : P.underlying t1 = some d1) (hd : isIntD d1 = false) (hi : P.info? elem = some inf) (hz : inf.zero = some z)
    (hl : (Builtin.lenOf u).run P w = .ok n w) (hf : (Builtin.firstCells inf.size n u).run P { w with drawn := w.drawn + 1 } = .ok us.toArray { w with drawn := w.drawn + 1 }) (hold : (Builtin.firstCells inf.size l (.slice base l c)).run P { w with drawn := w.drawn + 1 } = .ok os.toArray { w with drawn := w.drawn + 1 }) (hc : c < l + n) (hn : l + n ≤ 2 ^ 20) (hb : inf.bytes ≤ 2 ^ 20) :
    ∃ (nc : Nat) (rest : Array Value), l + n ≤ nc ∧ rest.size = (nc - (l + n)) * z.cells.size ∧ (Builtin.append_ ats ty #[.slice base l c, u]).run P w = .ok (.slice (some ⟨w.heap.size, 0, none⟩) (l + n) nc) { w with drawn := w.drawn + 1, heap := w.heap.push (.cells (os.toArray ++ us.toArray ++ rest) elem) } := by
  obtain ⟨nc, hnc, hch⟩ := choose_run P (l + n) c elem w
  refine ⟨nc, Builtin.zeroCells z.cells (nc - (l + n)), hnc, zeroCells_size _ _, ?_⟩
  have e0 : (#[Value.slice base l c, u] : Array Value)[0]? = some (.slice base l c) := rfl
  have e1 : (#[Value.slice base l c, u] : Array Value)[1]? = some u := rfl
  have hz1 : (underlying t1).run P w = .ok d1 w := run_und h1 w
  have g1 : ¬ (l + n ≤ c) := by omega
  have g2 : ¬ (((l + n : Nat) : Int) > IntKind.i64.max ∧ (False ∨ inf.bytes = 0)) := fun h => by
    have := h.1
    simp only [IntKind.max, IntKind.bits, IntKind.signed] at this
    omega
  have g3 : ¬ (Builtin.nextslicecap (l + n) c * inf.bytes > 2 ^ 48) := by
    have h2 := nextcap_le (need := l + n) hc (by omega)
    have h3 : Builtin.nextslicecap (l + n) c * inf.bytes ≤ (2 * 2 ^ 20 + 1000) * 2 ^ 20 := Nat.mul_le_mul (by omega) hb
    omega
  unfold Builtin.append_
  cases d1 <;> first
    | (cases hd; done)
    | (simp only [ha0, e0, e1, ha1, Sem.run_bind, run_und h0, Result.andThen_ok, run_siz hi, hz1, Sem.run_pure, Bool.false_eq_true, if_false, hl, g1, hf, Bool.not_false, run_inf hi, g2, g3, hch, askRoom_run, hold, run_zero hi hz, if_true]
       rfl)
end Go.Proofs.YtjfcjpbolokfcaaGreatDoor.Ev
