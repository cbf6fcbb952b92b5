/-
  An evaluator for closed runs: the operations (7: append's three cases).
  An evaluator for closed runs: the operations (8: len, slices of slices).
  An evaluator for closed runs: the operations (9: maps).
  An evaluator for closed runs: the operations (10: comparisons with nil; types asserted).
  An evaluator for closed runs: the operations (11: structs, arrays and rows that are built).
  An evaluator for closed runs: the operations (12: maps asked and turned).
  An evaluator for closed runs: the operations (13: maps turned).
  An evaluator for closed runs: the operations (14: iterators, asserted types, rows made and cleared).
  An evaluator for closed runs: the operations (15: steps along maps; asserted types; rows made and cleared).
  An evaluator for closed runs: the operations (16: asserted types; places of a row of a room of its own).
-/
import Derived.Test.YthdjicolicokcaaGreatDoorDn01
namespace Go.Proofs.YthdjicolicokcaaGreatDoor.Ev
open Go
theorem newAt {ρ : Nat → Nm} {nx : Nat} {H : Nat → Option AO} {w : World} (h : HR ρ nx H w) (o : Obj) (a : AO) (m : Nm) (hm : m.b = w.heap.size) (ho : OR (upd ρ nx m) (nx + 1) m a (some o)) (d : Nat) :
    Step ρ nx H w (upd ρ nx m) (nx + 1) (updH H nx (some a)) { w with drawn := d, heap := w.heap.push o } := by
  have hx := upd_ext ρ nx m
  refine ⟨hx, ⟨fun n o' hn => ?_, fun n k o1 o2 hn hk he => ?_⟩, ⟨rfl, rfl, rfl, by simp, fun k hk _ => push_old _ _ hk⟩, fun n o' hn => ?_⟩
  · rcases updH_get hn with ⟨rfl, e⟩ | ⟨hne, hn⟩
    · obtain rfl := Option.some.inj e
      refine ⟨Nat.lt_succ_self _, ?_⟩
      rw [upd_at]
      show OR _ _ _ _ (w.heap.push o)[m.b]?
      rw [hm]
      simpa using ho
    · have h1 := h.obj n o' hn
      refine ⟨Nat.lt_succ_of_lt h1.1, ?_⟩
      rw [hx.2 n h1.1]
      have : (w.heap.push o)[(ρ n).b]? = w.heap[(ρ n).b]? := push_old _ _ (h.old hn)
      show OR _ _ _ _ ((w.heap.push o)[(ρ n).b]?)
      rw [this]
      exact h1.2.mono hx
  · rcases updH_get hn with ⟨h1, _⟩ | ⟨hne, hn1⟩ <;> rcases updH_get hk with ⟨h2, _⟩ | ⟨hke, hk1⟩
    · exact h1.trans h2.symm
    · rw [h1, upd_at, hx.2 k (h.obj k _ hk1).1] at he
      have := h.old hk1
      omega
    · rw [h2, upd_at, hx.2 n (h.obj n _ hn1).1] at he
      have := h.old hn1
      omega
    · rw [hx.2 n (h.obj n _ hn1).1, hx.2 k (h.obj k _ hk1).1] at he
      exact h.inj n k o1 o2 hn1 hk1 he
  · rcases updH_get hn with ⟨rfl, _⟩ | ⟨hne, hn⟩
    · exact .inl (by rw [upd_at, hm]; exact Nat.le_refl _)
    · exact .inr ⟨n, o', hn, by rw [hx.2 n (h.obj n _ hn).1]⟩
theorem sl_at {ρ : Nat → Nm} {nx l c b s e : Nat} : VR (upd ρ nx ⟨b, s, e⟩) (nx + 1) (.slice (some ⟨nx, 0, none⟩) l c) (.slice (some ⟨b, s, none⟩) l (c + e)) := by
  have h := VR.sl (ρ := upd ρ nx ⟨b, s, e⟩) nx 0 l c (Nat.lt_succ_self nx)
  rw [upd_at] at h
  exact h
section
variable {P : Program} {o : Oper} {f : T Value} {s s' : St} {v : Value}
theorem append_run {c : Call} {x y : Operand} (ho : o.op = .call c) (hc : c.callee = .builtin .append) (ha : c.args = #[x, y]) (ev : Operand → Value) : execOp ev o = (do pure (.value (← Builtin.append_ c.argTypes o.type #[ev x, ev y]))) := by
  have hm : (#[x, y] : Array Operand).map ev = #[ev x, ev y] := by simp
  have hres : resolve ev c o.type = pure { target := .builtin .append c.argTypes o.type (c.args.map fun | .const _ => true | _ => false), args := #[ev x, ev y] } := by
    unfold resolve
    rw [hc, ha, hm]
    rfl
  rw [call_run ev ho, hres]
  rfl
structure AppT (P : Program) (o : Oper) (c : Call) (x y : Operand) (elem : TypeId) (inf : TypeInfo) (z : Value) (d1 : TypeDesc) (t0 t1 : TypeId) : Prop where
  op : o.op = .call c
  callee : c.callee = .builtin .append
  args : c.args = #[x, y]
  a0 : c.argTypes[0]? = some t0
  a1 : c.argTypes[1]? = some t1
  u0 : P.underlying t0 = some (.slice elem)
  u1 : P.underlying t1 = some d1
  notInt : isIntD d1 = false
  info : P.info? elem = some inf
  zero : inf.zero = some z
  cells : z.cells.size = inf.size
  small : inf.bytes ≤ 2 ^ 20
variable {c : Call} {x y : Operand} {elem t0 t1 : TypeId} {inf : TypeInfo} {z u : Value} {d1 : TypeDesc}
theorem appendIn_ok (T : AppT P o c x y elem inf z d1 t0 t1) {n k l cp m e sz fz q : Nat} {t : Go.Proofs.YthdjicolicokcaaGreatDoor.Ev.T Value} {vs : List Value} (hx : evO f x = some (.slice (some ⟨n, k, none⟩) l cp)) (hy : evO f y = some u) (hs : srcA s inf.size u = some (q, vs)) (hn : s.h.get n = some (.cells t m e sz fz)) (h1 : vs.all (·.oneCell') = true) (hq : l + q ≤ cp) (hz : fz ≤ k + l * inf.size) (hk : k + l * inf.size + q * inf.size ≤ m) :
    ValOk P o f s (.slice (some ⟨n, k, none⟩) (l + q) cp) ⟨s.h.set (.cells (writeF vs t (k + l * inf.size)) m e sz fz) n, s.nx⟩ := by
  refine valOk_of (sem := fun ev => Builtin.append_ c.argTypes o.type #[ev x, ev y]) (fun ev => append_run T.op T.callee T.args ev) (fun ρ w a hr hf => ?_)
  have hp := evO_sound hf hx
  have hv := evO_sound hf hy
  obtain ⟨b, hb⟩ : ∃ b, a.eval x = b := ⟨_, rfl⟩
  obtain ⟨g, hg⟩ : ∃ g, a.eval y = g := ⟨_, rfl⟩
  rw [hb] at hp
  rw [hg] at hv
  obtain ⟨r1, us, r2, r3, r4, r5⟩ := srcA_sim P hr hs hv
  cases hp
  rename_i hlt
  obtain ⟨w', hw, st⟩ := storeCells_sim P (o := k + l * inf.size) vs us 0 t s.h.get w hr hn r2.symm (fun j p q hp hq => r5.2 j p q (by simpa using hp) (by simpa using hq)) (fun p hp => List.all_eq_true.1 h1 p hp) (by omega) (by omega)
  refine ⟨ρ, w', _, ?_, st.less get_updH, .sl n k (l + q) cp hlt⟩
  simp only [hb, hg]
  refine append_in_run T.a0 T.a1 T.u0 T.u1 T.notInt T.info r1 r4 (by omega) (fun a ha => ?_) (fun h => by cases h)
  obtain rfl := Option.some.inj ha
  rw [at_add]
  exact hw
theorem world_drawn {ρ : Nat → Nm} {nx : Nat} {H : Nat → Option AO} {w : World} (h : HR ρ nx H w) (d : Nat) : HR ρ nx H { w with drawn := d } := ⟨fun n o hn => h.obj n o hn, fun n m o o' hn hm he => h.inj n m o o' hn hm he⟩
theorem appendNil_ok (T : AppT P o c x y elem inf z d1 t0 t1) {q : Nat} {vs : List Value} (hx : evO f x = some (.slice none 0 0)) (hy : evO f y = some u) (hs : srcA s inf.size u = some (q, vs)) (hq : 0 < q) (hq2 : q ≤ 2 ^ 20) :
    ValOk P o f s (.slice (some ⟨s.nx, 0, none⟩) q q) (s.new (.cells (ofL vs) (q * inf.size) elem inf.size 0)) := by
  refine valOk_of (sem := fun ev => Builtin.append_ c.argTypes o.type #[ev x, ev y]) (fun ev => append_run T.op T.callee T.args ev) (fun ρ w a hr hf => ?_)
  have hp := evO_sound hf hx
  have hv := evO_sound hf hy
  obtain ⟨b, hb⟩ : ∃ b, a.eval x = b := ⟨_, rfl⟩
  obtain ⟨g, hg⟩ : ∃ g, a.eval y = g := ⟨_, rfl⟩
  rw [hb] at hp
  rw [hg] at hv
  obtain ⟨r1, _⟩ := srcA_sim P hr hs hv
  obtain ⟨_, us, r2, r3, r4, r5⟩ := srcA_sim P (world_drawn hr (w.drawn + 1)) hs hv
  cases hp
  obtain ⟨nc, rest, k1, k2, k3⟩ := append_new_run (P := P) (ty := o.type) (base := none) (l := 0) (c := 0) (os := []) T.a0 T.a1 T.u0 T.u1 T.notInt T.info T.zero r1 r4 rfl (by omega) (by omega) T.small
  rw [T.cells, Nat.zero_add] at k2
  have hO : OR (upd ρ s.nx ⟨w.heap.size, 0, nc - q⟩) (s.nx + 1) ⟨w.heap.size, 0, nc - q⟩ (.cells (ofL vs) (q * inf.size) elem inf.size 0) (some (.cells (([] : List Value).toArray ++ us.toArray ++ rest) elem)) := by
    refine ⟨_, (0, 0), fun _ => rfl, rfl, ?_, fun i v hi hg2 => ?_, by simp⟩
    · simp only [Array.size_append, List.size_toArray, List.length_nil, k2, r2, r3]
      omega
    · obtain ⟨y2, hy2, hr2⟩ := r5.at (i := i) (x := v) (by simpa using ofL_get hg2)
      refine ⟨y2, ?_, hr2.mono (upd_ext _ _ _)⟩
      have hlt := arr_lt hy2
      simp only [Nat.zero_add]
      rw [Array.getElem?_append_left (by simpa using hlt)]
      simpa using hy2
  have st := newAt hr _ _ ⟨w.heap.size, 0, nc - q⟩ rfl hO (w.drawn + 1)
  have hsl := sl_at (ρ := ρ) (nx := s.nx) (l := q) (c := q) (b := w.heap.size) (s := 0) (e := nc - q)
  rw [show q + (nc - q) = nc by omega] at hsl
  refine ⟨_, _, .slice (some ⟨w.heap.size, 0, none⟩) (0 + q) nc, ?_, st.less get_updH, by rw [Nat.zero_add]; exact hsl⟩
  simp only [hb, hg]
  exact k3
theorem appendGrow_ok (T : AppT P o c x y elem inf z d1 t0 t1) (hne : inf.size ≠ 0) {n k l cp m fz q : Nat} {t nt : Go.Proofs.YthdjicolicokcaaGreatDoor.Ev.T Value} {vs : List Value} (hx : evO f x = some (.slice (some ⟨n, k, none⟩) l cp) ∨ (l = 0 ∧ cp = 0 ∧ 0 < q ∧ ∃ j, evO f x = some (.slice (some ⟨n, k, some (j + 1)⟩) 0 0))) (hy : evO f y = some u) (hs : srcA s inf.size u = some (q, vs)) (hn : s.h.get n = some (.cells t m elem inf.size fz)) (h1 : vs.all (·.oneCell') = true) (hl : l ≤ cp) (hq2 : l + q ≤ 2 ^ 20) (hz : fz ≤ k + l * inf.size) (hk : m = k + cp * inf.size)
    (hnt : ∀ i v, i < (l + q) * inf.size → nt.get i = some v → (i < l * inf.size ∧ t.get (k + i) = some v) ∨ (l * inf.size ≤ i ∧ vs[i - l * inf.size]? = some v)) :
    ValOk P o f s (.slice (some ⟨s.nx, 0, none⟩) (l + q) (l + q)) ⟨(s.h.del n).set (.cells nt ((l + q) * inf.size) elem inf.size (fz - k)) s.nx, s.nx + 1⟩ := by
  refine valOk_of (sem := fun ev => Builtin.append_ c.argTypes o.type #[ev x, ev y]) (fun ev => append_run T.op T.callee T.args ev) (fun ρ w a hr hf => ?_)
  have hv := evO_sound hf hy
  obtain ⟨g, hg⟩ : ∃ g, a.eval y = g := ⟨_, rfl⟩
  rw [hg] at hv
  obtain ⟨bb, hb, hbb⟩ : ∃ bb, a.eval x = .slice (some bb) l (cp + (ρ n).e) ∧ (bb = (ρ n).at k ∨ (l = 0 ∧ cp = 0 ∧ 0 < q ∧ (ρ n).e = 0)) := by
    obtain ⟨b, hb⟩ : ∃ b, a.eval x = b := ⟨_, rfl⟩
    rcases hx with hx | ⟨rfl, rfl, hq0, j, hx⟩
    · have hp := evO_sound hf hx
      rw [hb] at hp
      cases hp
      exact ⟨_, hb, .inl rfl⟩
    · have hp := evO_sound hf hx
      rw [hb] at hp
      cases hp
      refine ⟨_, by rw [hb, Nat.zero_add], ?_⟩
      by_cases he : (ρ n).e = 0
      · exact .inr ⟨rfl, rfl, hq0, he⟩
      · rw [if_neg he]
        exact .inl rfl
  have hle : l * inf.size ≤ cp * inf.size := Nat.mul_le_mul_right _ hl
  have hadd : (l + q) * inf.size = l * inf.size + q * inf.size := Nat.add_mul _ _ _
  by_cases hin : l + q ≤ cp + (ρ n).e
  · -- in place
    obtain rfl : bb = (ρ n).at k := by
      rcases hbb with h | ⟨h2, h3, h4, h5⟩
      · exact h
      · omega
    obtain ⟨r1, us, r2, r3, r4, r5⟩ := srcA_sim P hr hs hv
    obtain ⟨hnx, cs, fr, _, g1, g2, g3, g4⟩ := hr.obj n _ hn
    have hroom : (l + q) * inf.size + (cp + (ρ n).e - (l + q)) * inf.size = cp * inf.size + (ρ n).e * inf.size := by
      rw [← Nat.add_mul, ← Nat.add_mul]
      congr 1
      omega
    have hone : ∀ u ∈ us, u.oneCell' = true := fun u hu => by
      obtain ⟨i, hi⟩ := List.getElem?_of_mem hu
      obtain ⟨v, hv⟩ := arr_get (a := vs.toArray) (i := i) (by have := arr_lt (a := us.toArray) (i := i) (x := u) (by simpa using hi); have := r5.1; omega)
      rw [(r5.2 i v u hv (by simpa using hi)).one]
      exact List.all_eq_true.1 h1 v (List.mem_of_getElem? (by simpa using hv))
    obtain ⟨w', cs', p1, p2, p3, p4, p5, p6, p7, p8, p9, p10⟩ := storeCells_at P (m := ρ n) (o := k + l * inf.size) rfl us 0 w cs g1 hone (by omega) (fun j h2 h3 => by omega)
    have hO : OR (upd ρ s.nx ⟨(ρ n).b, (ρ n).s + k, cp + (ρ n).e - (l + q)⟩) (s.nx + 1) ⟨(ρ n).b, (ρ n).s + k, cp + (ρ n).e - (l + q)⟩ (.cells nt ((l + q) * inf.size) elem inf.size (fz - k)) w'.heap[(ρ n).b]? := by
      refine ⟨cs', fr, fun h => absurd h hne, p2, by simp only; omega, fun i v hi hg2 => ?_, by simp only; omega⟩
      · simp only
        rcases hnt i v hi hg2 with ⟨h2, h3⟩ | ⟨h2, h3⟩
        · obtain ⟨a2, ha2, hr2⟩ := g3 (k + i) v (by omega) h3
          refine ⟨a2, ?_, hr2.mono (upd_ext _ _ _)⟩
          rw [p4 _ (.inl (by omega)), Nat.add_assoc]
          exact ha2
        · obtain ⟨y2, hy2, hr2⟩ := r5.at (i := i - l * inf.size) (x := v) (by simpa using h3)
          refine ⟨y2, ?_, hr2.mono (upd_ext _ _ _)⟩
          have := p5 (i - l * inf.size) y2 (by simpa using hy2)
          rw [show (ρ n).s + (k + l * inf.size + 0) + (i - l * inf.size) = (ρ n).s + k + i by omega] at this
          exact this
    have st := hr.moved (m := ⟨(ρ n).b, (ρ n).s + k, cp + (ρ n).e - (l + q)⟩) hn rfl p8 p9 p10 p6 p7 hO
    have hsl := sl_at (ρ := ρ) (nx := s.nx) (l := l + q) (c := l + q) (b := (ρ n).b) (s := (ρ n).s + k) (e := cp + (ρ n).e - (l + q))
    rw [show l + q + (cp + (ρ n).e - (l + q)) = cp + (ρ n).e by omega] at hsl
    refine ⟨_, w', .slice (some ((ρ n).at k)) (l + q) (cp + (ρ n).e), ?_, st.less del_updH, hsl⟩
    simp only [hb, hg]
    refine append_in_run T.a0 T.a1 T.u0 T.u1 T.notInt T.info r1 r4 hin (fun a ha => ?_) (fun h => by cases h)
    obtain rfl := Option.some.inj ha
    rw [at_add]
    exact p1
  · obtain ⟨r1, _⟩ := srcA_sim P hr hs hv
    have hr' := world_drawn hr (w.drawn + 1)
    obtain ⟨_, us, r2, r3, r4, r5⟩ := srcA_sim P hr' hs hv
    obtain ⟨os, q1, q2, q3⟩ := hr'.there hn (l * inf.size) k (by omega)
    have hold : (Builtin.firstCells inf.size l (.slice (some bb) l (cp + (ρ n).e))).run P { w with drawn := w.drawn + 1 } = .ok os.toArray { w with drawn := w.drawn + 1 } := by
      show (loadCells bb (l * inf.size)).run P _ = _
      rcases hbb with rfl | ⟨rfl, _⟩
      · rw [← q1]
        exact run_loadCells_list _ _ os q2
      · rw [Nat.zero_mul] at q1 ⊢
        rw [List.length_eq_zero_iff.1 q1]
        rfl
    obtain ⟨nc, rest, k1, k2, k3⟩ := append_new_run (P := P) (ty := o.type) T.a0 T.a1 T.u0 T.u1 T.notInt T.info T.zero r1 r4 hold (by omega) hq2 T.small
    rw [T.cells] at k2
    have hsz : (l + q) * inf.size + (nc - (l + q)) * inf.size = nc * inf.size := by
      rw [← Nat.add_mul]
      congr 1
      omega
    have hO : OR (upd ρ s.nx ⟨w.heap.size, 0, nc - (l + q)⟩) (s.nx + 1) ⟨w.heap.size, 0, nc - (l + q)⟩ (.cells nt ((l + q) * inf.size) elem inf.size (fz - k)) (some (.cells (os.toArray ++ us.toArray ++ rest) elem)) := by
      refine ⟨_, (0, 0), fun _ => rfl, rfl, ?_, fun i v hi hg2 => ?_, by simp⟩
      · simp only [Array.size_append, List.size_toArray, k2, r2, r3, q1]
        omega
      · simp only [Nat.zero_add]
        rcases hnt i v hi hg2 with ⟨h2, h3⟩ | ⟨h2, h3⟩
        · obtain ⟨u2, hu2, hr2⟩ := q3 i v h2 h3
          refine ⟨u2, ?_, hr2.mono (upd_ext _ _ _)⟩
          rw [Array.getElem?_append_left (by simp; omega), Array.getElem?_append_left (by simp; omega)]
          simpa using hu2
        · obtain ⟨y2, hy2, hr2⟩ := r5.at (i := i - l * inf.size) (x := v) (by simpa using h3)
          have hlt2 := arr_lt hy2
          simp only [List.size_toArray] at hlt2
          refine ⟨y2, ?_, hr2.mono (upd_ext _ _ _)⟩
          rw [Array.getElem?_append_left (by simp; omega), Array.getElem?_append_right (by simp; omega)]
          simpa [q1] using hy2
    have st := newAt hr _ _ ⟨w.heap.size, 0, nc - (l + q)⟩ rfl hO (w.drawn + 1)
    have hsl := sl_at (ρ := ρ) (nx := s.nx) (l := l + q) (c := l + q) (b := w.heap.size) (s := 0) (e := nc - (l + q))
    rw [show l + q + (nc - (l + q)) = nc by omega] at hsl
    refine ⟨_, _, .slice (some ⟨w.heap.size, 0, none⟩) (l + q) nc, ?_, st.less (fun i o' ho => ?_), hsl⟩
    · simp only [hb, hg]
      exact k3
    · rcases updH_get (del_updH i o' ho) with ⟨e1, e2⟩ | ⟨e1, e2⟩
      · rw [e1, updH_at, e2]
      · rcases updH_get e2 with ⟨_, e3⟩ | ⟨_, e3⟩
        · cases e3
        · unfold updH
          rw [if_neg e1]
          exact e3
theorem appendZero_ok (T : AppT P o c x y elem inf z d1 t0 t1) {b : Option Addr} {l cp : Nat} (hx : evO f x = some (.slice b l cp)) (hy : evO f y = some u) (hs : srcA s inf.size u = some (0, [])) (hl : l ≤ cp) : QOk P o f s (.slice b l cp) := by
  refine qOk_of (sem := fun ev => Builtin.append_ c.argTypes o.type #[ev x, ev y]) (fun ev => append_run T.op T.callee T.args ev) (fun ρ w a hr hf => ?_)
  have hp := evO_sound hf hx
  have hv := evO_sound hf hy
  obtain ⟨v, hb⟩ : ∃ b, a.eval x = b := ⟨_, rfl⟩
  obtain ⟨g, hg⟩ : ∃ g, a.eval y = g := ⟨_, rfl⟩
  rw [hg] at hv
  obtain ⟨r1, us, r2, _, r4, _⟩ := srcA_sim P hr hs hv
  obtain rfl := List.length_eq_zero_iff.1 r2
  refine ⟨a.eval x, ?_, hp⟩
  rw [hb] at hp ⊢
  have key : ∀ (b' : Option Addr) (c' : Nat), l ≤ c' → v = .slice b' l c' → (Builtin.append_ c.argTypes o.type #[v, a.eval y]).run P w = .ok v w := fun b' c' h e => by
    subst e
    rw [hg]
    exact append_in_run T.a0 T.a1 T.u0 T.u1 T.notInt T.info r1 r4 h (fun _ _ => rfl) (fun _ => rfl)
  cases hp with
  | nilSl => exact key _ _ hl rfl
  | sl => exact key _ _ (by omega) rfl
  | fx => exact key _ _ hl rfl
  | tl => exact key _ _ (Nat.zero_le _) rfl
theorem appendFx_ok (T : AppT P o c x y elem inf z d1 t0 t1) {n k l cp m sz fz q : Nat} {t nt : Go.Proofs.YthdjicolicokcaaGreatDoor.Ev.T Value} {vs : List Value} {e : TypeId} (hx : evO f x = some (.slice (some ⟨n, k, some 0⟩) l cp)) (hy : evO f y = some u) (hs : srcA s inf.size u = some (q, vs)) (hn : s.h.get n = some (.cells t m e sz fz) ∨ l = 0) (hq : cp < l + q) (hq2 : l + q ≤ 2 ^ 20) (hk : k + l * inf.size ≤ m)
    (hnt : ∀ i v, i < (l + q) * inf.size → nt.get i = some v → (i < l * inf.size ∧ t.get (k + i) = some v) ∨ (l * inf.size ≤ i ∧ vs[i - l * inf.size]? = some v)) :
    ValOk P o f s (.slice (some ⟨s.nx, 0, none⟩) (l + q) (l + q)) (s.new (.cells nt ((l + q) * inf.size) elem inf.size 0)) := by
  refine valOk_of (sem := fun ev => Builtin.append_ c.argTypes o.type #[ev x, ev y]) (fun ev => append_run T.op T.callee T.args ev) (fun ρ w a hr hf => ?_)
  have hp := evO_sound hf hx
  have hv := evO_sound hf hy
  obtain ⟨b, hb⟩ : ∃ b, a.eval x = b := ⟨_, rfl⟩
  obtain ⟨g, hg⟩ : ∃ g, a.eval y = g := ⟨_, rfl⟩
  rw [hb] at hp
  rw [hg] at hv
  cases hp
  have hadd : (l + q) * inf.size = l * inf.size + q * inf.size := Nat.add_mul _ _ _
  obtain ⟨r1, _⟩ := srcA_sim P hr hs hv
  have hr' := world_drawn hr (w.drawn + 1)
  obtain ⟨_, us, r2, r3, r4, r5⟩ := srcA_sim P hr' hs hv
  obtain ⟨os, q1, hold, q3⟩ : ∃ os : List Value, os.length = l * inf.size ∧ (loadCells ((ρ n).at k) (l * inf.size)).run P { w with drawn := w.drawn + 1 } = .ok os.toArray { w with drawn := w.drawn + 1 } ∧ ∀ j v, j < l * inf.size → t.get (k + j) = some v → ∃ u, os[j]? = some u ∧ VR ρ s.nx v u := by
    rcases hn with hn | rfl
    · obtain ⟨os, q1, q2, q3⟩ := hr'.there hn (l * inf.size) k (by omega)
      refine ⟨os, q1, ?_, q3⟩
      rw [← q1]
      exact run_loadCells_list _ _ os q2
    · rw [Nat.zero_mul]
      exact ⟨[], rfl, rfl, fun j v hj => by omega⟩
  obtain ⟨nc, rest, k1, k2, k3⟩ := append_new_run (P := P) (ty := o.type) (base := some ((ρ n).at k)) (c := cp) T.a0 T.a1 T.u0 T.u1 T.notInt T.info T.zero r1 r4 hold (by omega) hq2 T.small
  rw [T.cells] at k2
  have hsz : (l + q) * inf.size + (nc - (l + q)) * inf.size = nc * inf.size := by
    rw [← Nat.add_mul]
    congr 1
    omega
  have hO : OR (upd ρ s.nx ⟨w.heap.size, 0, nc - (l + q)⟩) (s.nx + 1) ⟨w.heap.size, 0, nc - (l + q)⟩ (.cells nt ((l + q) * inf.size) elem inf.size 0) (some (.cells (os.toArray ++ us.toArray ++ rest) elem)) := by
    refine ⟨_, (0, 0), fun _ => rfl, rfl, ?_, fun i v hi hg2 => ?_, by simp⟩
    · simp only [Array.size_append, List.size_toArray, k2, r2, r3, q1]
      omega
    · simp only [Nat.zero_add]
      rcases hnt i v hi hg2 with ⟨h2, h3⟩ | ⟨h2, h3⟩
      · obtain ⟨u2, hu2, hr2⟩ := q3 i v h2 h3
        refine ⟨u2, ?_, hr2.mono (upd_ext _ _ _)⟩
        rw [Array.getElem?_append_left (by simp; omega), Array.getElem?_append_left (by simp; omega)]
        simpa using hu2
      · obtain ⟨y2, hy2, hr2⟩ := r5.at (i := i - l * inf.size) (x := v) (by simpa using h3)
        have hlt2 := arr_lt hy2
        simp only [List.size_toArray] at hlt2
        refine ⟨y2, ?_, hr2.mono (upd_ext _ _ _)⟩
        rw [Array.getElem?_append_left (by simp; omega), Array.getElem?_append_right (by simp; omega)]
        simpa [q1] using hy2
  have st := newAt hr _ _ ⟨w.heap.size, 0, nc - (l + q)⟩ rfl hO (w.drawn + 1)
  have hsl := sl_at (ρ := ρ) (nx := s.nx) (l := l + q) (c := l + q) (b := w.heap.size) (s := 0) (e := nc - (l + q))
  rw [show l + q + (nc - (l + q)) = nc by omega] at hsl
  refine ⟨_, _, .slice (some ⟨w.heap.size, 0, none⟩) (l + q) nc, ?_, st.less get_updH, hsl⟩
  simp only [hb, hg]
  exact k3
noncomputable def growT (t : Go.Proofs.YthdjicolicokcaaGreatDoor.Ev.T Value) (k n : Nat) (vs : List Value) : Option (Go.Proofs.YthdjicolicokcaaGreatDoor.Ev.T Value) := Nat.casesOn k (some (writeF vs t n)) (fun _ => Option.casesOn (readF t k n) none (fun os => some (writeF vs (ofL os) n)))
theorem readF_get : ∀ (c o : Nat) (t : Go.Proofs.YthdjicolicokcaaGreatDoor.Ev.T Value) (vs : List Value), readF t o c = some vs → vs.length = c ∧ ∀ (i : Nat) v, vs[i]? = some v → t.get (o + i) = some v
  | 0, o, t, vs, hr => by
    obtain rfl := Option.some.inj (show some [] = some vs from hr)
    exact ⟨rfl, fun i v h => by simp at h⟩
  | c + 1, o, t, vs, hr => by
    have hr : (match t.get o with
      | some v => match readF t (o + 1) c with
        | some vs => some (v :: vs)
        | none => none
      | none => none) = some vs := hr
    split at hr
    · rename_i v hv
      split at hr
      · rename_i us hus
        obtain rfl := Option.some.inj hr
        obtain ⟨h1, h2⟩ := readF_get c (o + 1) t us hus
        refine ⟨by simp [h1], fun i x hx => ?_⟩
        cases i with
        | zero =>
          simp at hx
          subst hx
          exact hv
        | succ i =>
          rw [show o + (i + 1) = o + 1 + i by omega]
          exact h2 i x (by simpa using hx)
      · cases hr
    · cases hr
theorem growT_get {t nt : Go.Proofs.YthdjicolicokcaaGreatDoor.Ev.T Value} {k n : Nat} {vs : List Value} (h : growT t k n vs = some nt) : ∀ i v, i < n + vs.length → nt.get i = some v → (i < n ∧ t.get (k + i) = some v) ∨ (n ≤ i ∧ vs[i - n]? = some v) := fun i v hi hg => by
  cases k with
  | zero =>
    obtain rfl := Option.some.inj (show some (writeF vs t n) = some nt from h)
    rcases writeF_get vs t n i v hg with ⟨h1, h2⟩ | ⟨h1, h2⟩
    · exact .inr ⟨h1, h2⟩
    · refine .inl ⟨by omega, ?_⟩
      rw [Nat.zero_add]
      exact h2
  | succ k =>
    change (Option.casesOn (readF t (k + 1) n) none (fun os => some (writeF vs (ofL os) n)) : Option (Go.Proofs.YthdjicolicokcaaGreatDoor.Ev.T Value)) = some nt at h
    rcases hr : readF t (k + 1) n with _ | os
    · rw [hr] at h
      cases h
    · rw [hr] at h
      obtain rfl := Option.some.inj h
      obtain ⟨_, h4⟩ := readF_get _ _ _ _ hr
      rcases writeF_get vs (ofL os) n i v hg with ⟨h1, h2⟩ | ⟨h1, h2⟩
      · exact .inr ⟨h1, h2⟩
      · exact .inl ⟨by omega, h4 i v (ofL_get h2)⟩
end
end Go.Proofs.YthdjicolicokcaaGreatDoor.Ev
namespace Go.Proofs.YthdjicolicokcaaGreatDoor.Ev
open Go
theorem map1 {α β : Type} (g : α → β) (x : α) : (#[x] : Array α).map g = #[g x] := by simp
theorem map2 {α β : Type} (g : α → β) (x y : α) : (#[x, y] : Array α).map g = #[g x, g y] := by simp
section
variable {P : Program} {o : Oper} {f : T Value} {s s' : St} {v : Value}
theorem builtin_run {c : Call} {b : Builtin} (ho : o.op = .call c) (hc : c.callee = .builtin b) (ev : Operand → Value) : execOp ev o = builtin b c.argTypes o.type (c.args.map fun | .const _ => true | _ => false) (c.args.map ev) := by
  have hres : resolve ev c o.type = pure { target := .builtin b c.argTypes o.type (c.args.map fun | .const _ => true | _ => false), args := c.args.map ev } := by
    unfold resolve
    rw [hc]
    rfl
  rw [call_run ev ho, hres]
  rfl
theorem lenSl_ok {c : Call} {x : Operand} {t e : TypeId} {b : Option Addr} {l cp : Nat} (ho : o.op = .call c) (hc : c.callee = .builtin .len) (ha : c.args = #[x]) (ht : c.argTypes[0]? = some t) (hu : P.underlying t = some (.slice e)) (hx : evO f x = some (.slice b l cp)) : QOk P o f s (.int .i64 l) := by
  refine qOk_of (sem := fun ev => Builtin.len_ c.argTypes o.type #[ev x]) (fun ev => ?_) (fun ρ w a hr hf => ?_)
  · rw [builtin_run ho hc ev, ha, map1 ev]
    rfl
  · have hp := evO_sound hf hx
    obtain ⟨u, hu2⟩ : ∃ u, a.eval x = u := ⟨_, rfl⟩
    rw [hu2] at hp
    have e0 : (#[u] : Array Value)[0]? = some u := rfl
    refine ⟨.int .i64 l, ?_, .int _ _⟩
    cases hp <;> simp only [hu2, Builtin.len_, ht, e0, Sem.run_bind, run_und hu, Result.andThen_ok] <;> rfl
theorem MR.length {ρ : Nat → Nm} {nx : Nat} {l m : List MapEntry} (h : MR ρ nx l m) : l.length = m.length := by
  induction h with
  | nil => rfl
  | cons _ _ _ _ _ _ _ _ _ ih => simp [ih]
theorem run_getObj (P : Program) (r : Nat) {w : World} {o : Obj} (h : w.heap[r]? = some o) (hc : ∀ c e fr, o ≠ .cells c e fr) : (getObj r).run P w = .ok o w := by
  show Sem.run P (.getObj r .pure) w = _
  unfold Sem.run
  rw [h]
  cases o <;> first | rfl | exact absurd rfl (hc _ _ _)
theorem lenMap_ok {c : Call} {x : Operand} {t k e : TypeId} {n clock : Nat} {es : List MapEntry} (ho : o.op = .call c) (hc : c.callee = .builtin .len) (ha : c.args = #[x]) (ht : c.argTypes[0]? = some t) (hu : P.underlying t = some (.map k e)) (hx : evO f x = some (.map (some n))) (hn : s.h.get n = some (.map es clock)) : QOk P o f s (.int .i64 es.length) := by
  refine qOk_of (sem := fun ev => Builtin.len_ c.argTypes o.type #[ev x]) (fun ev => ?_) (fun ρ w a hr hf => ?_)
  · rw [builtin_run ho hc ev, ha, map1 ev]
    rfl
  · have hp := evO_sound hf hx
    obtain ⟨u, hu2⟩ : ∃ u, a.eval x = u := ⟨_, rfl⟩
    rw [hu2] at hp
    have e0 : (#[u] : Array Value)[0]? = some u := rfl
    refine ⟨.int .i64 es.length, ?_, .int _ _⟩
    cases hp
    obtain ⟨_, es', h1, h2⟩ := hr.obj n _ hn
    simp only [hu2, Builtin.len_, ht, e0, Sem.run_bind, run_und hu, Result.andThen_ok, run_getObj P _ h1 (fun _ _ _ h => by cases h)]
    rw [h2.length]
    rfl
noncomputable def idxA (f : T Value) (x : Option Operand) (d : Nat) : Option Nat := match x with
  | none => some d
  | some x => match evO f x with
    | some (.int _ i) => match i with
      | .ofNat n => some n
      | .negSucc _ => none
    | _ => none
theorem bound_run (P : Program) {f : T Value} {ρ : Nat → Nm} {nx : Nat} {a : Act} (hf : FR ρ nx f a) {x : Operand} {d i y : Nat} (h : idxA f (some x) d = some i) (hy : i ≤ y) (code : BoundsCode) (w : World) : (Instr.sliceBound (a.eval x) y code).run P w = .ok i w := by
  unfold idxA at h
  simp only at h
  split at h
  · rename_i k n hx
    split at h
    · obtain rfl := Option.some.inj h
      have hp := evO_sound hf hx
      obtain ⟨u, hu2⟩ : ∃ u, a.eval x = u := ⟨_, rfl⟩
      rw [hu2] at hp ⊢
      cases hp
      simp only [Instr.sliceBound, Sem.run_bind, asIntOf_run, Result.andThen_ok]
      rw [if_pos ⟨Int.natCast_nonneg _, Int.ofNat_le.2 hy⟩]
      rfl
    · cases h
  · cases h
theorem bounds_run (P : Program) {f : T Value} {ρ : Nat → Nm} {nx : Nat} {a : Act} (hf : FR ρ nx f a) {lo hi mx : Option Operand} {b : Bool} {len cap l h m : Nat} (hl : idxA f lo 0 = some l) (hh : idxA f hi len = some h) (hm : idxA f mx cap = some m) (h1 : l ≤ h) (h2 : h ≤ m) (h3 : m ≤ cap) (h4 : mx.isSome = true → hi.isSome = true) (w : World) : (Instr.sliceBounds b len cap (lo.map a.eval) (hi.map a.eval) (mx.map a.eval)).run P w = .ok (l, h, m) w := by
  unfold Instr.sliceBounds
  cases mx with
  | none =>
    obtain rfl := Option.some.inj (show some cap = some m from hm)
    cases hi with
    | none =>
      obtain rfl := Option.some.inj (show some len = some h from hh)
      simp only [Option.map_none, Sem.run_bind, Sem.run_pure, Result.andThen_ok]
      cases lo with
      | none =>
        obtain rfl := Option.some.inj (show some 0 = some l from hl)
        rfl
      | some x =>
        simp only [Option.map_some, Sem.run_bind, bound_run P hf hl h1, Result.andThen_ok]
        rfl
    | some y =>
      simp only [Option.map_none, Option.map_some, Sem.run_bind, Sem.run_pure, Result.andThen_ok, bound_run P hf hh h2]
      cases lo with
      | none =>
        obtain rfl := Option.some.inj (show some 0 = some l from hl)
        rfl
      | some x =>
        simp only [Option.map_some, Sem.run_bind, bound_run P hf hl h1, Result.andThen_ok]
        rfl
  | some z =>
    cases hi with
    | none => cases h4 rfl
    | some y =>
      simp only [Option.map_some, Sem.run_bind, Result.andThen_ok, bound_run P hf hm h3, bound_run P hf hh h2]
      cases lo with
      | none =>
        obtain rfl := Option.some.inj (show some 0 = some l from hl)
        rfl
      | some x =>
        simp only [Option.map_some, Sem.run_bind, bound_run P hf hl h1, Result.andThen_ok]
        rfl
noncomputable def cutA (n k size l h cp : Nat) : Value := match Nat.beq l cp with
  | true => .slice (some ⟨n, k + l * size, some (k + 1)⟩) 0 0
  | false => .slice (some ⟨n, k + l * size, none⟩) (h - l) (cp - l)
noncomputable def cutFx (n k size l h m : Nat) : Value := match Nat.beq l m with
  | true => .slice (some ⟨n, k, some 0⟩) 0 0
  | false => .slice (some ⟨n, k + l * size, some 0⟩) (h - l) (m - l)
theorem slice_run {t : TypeId} {x : Operand} {lo hi mx : Option Operand} (ho : o.op = .slice t x lo hi mx) (ev : Operand → Value) : execOp ev o = (do pure (.value (← Instr.sliceAt t (ev x) (lo.map ev) (hi.map ev) (mx.map ev)))) := by unfold execOp; rw [ho]
theorem sliceAt_run {t e : TypeId} {inf : TypeInfo} {a : Option Addr} {len cap l h m : Nat} {lo hi mx : Option Value} (hu : P.underlying t = some (.slice e)) (hi2 : P.info? e = some inf) {w : World} (hb : (Instr.sliceBounds true len cap lo hi mx).run P w = .ok (l, h, m) w) :
    (Instr.sliceAt t (.slice a len cap) lo hi mx).run P w = .ok (.slice (if m = l then a else a.map (·.add (l * inf.size))) (h - l) (m - l)) w := by
  simp only [Instr.sliceAt, Instr.slice, Sem.run_bind, run_und hu, Result.andThen_ok, hb, run_siz hi2, Sem.run_pure]
theorem sliceSl_ok {t e : TypeId} {inf : TypeInfo} {x : Operand} {lo hi : Option Operand} {n k len cp l h : Nat} (ho : o.op = .slice t x lo hi none) (hu : P.underlying t = some (.slice e)) (hi2 : P.info? e = some inf) (hx : evO f x = some (.slice (some ⟨n, k, none⟩) len cp)) (hl : idxA f lo 0 = some l) (hh : idxA f hi len = some h) (h1 : l ≤ h) (h2 : h ≤ cp) :
    QOk P o f s (cutA n k inf.size l h cp) := by
  refine qOk_of (sem := fun ev => Instr.sliceAt t (ev x) (lo.map ev) (hi.map ev) none) (fun ev => slice_run ho ev) (fun ρ w a hr hf => ?_)
  have hp := evO_sound hf hx
  obtain ⟨u, hu2⟩ : ∃ u, a.eval x = u := ⟨_, rfl⟩
  rw [hu2] at hp
  cases hp
  rename_i hn
  have hb := bounds_run P hf (mx := none) (b := true) (len := len) (cap := cp + (ρ n).e) (m := cp + (ρ n).e) hl hh rfl h1 (by omega) (Nat.le_refl _) (fun h => by cases h) w
  refine ⟨_, by simp only [hu2]; exact sliceAt_run hu hi2 hb, ?_⟩
  unfold cutA
  rcases hq : Nat.beq l cp with _ | _
  · have hne : l ≠ cp := Nat.ne_of_beq_eq_false hq
    rw [if_neg (by omega)]
    simp only [Option.map_some, at_add]
    have := VR.sl (ρ := ρ) n (k + l * inf.size) (h - l) (cp - l) hn
    rw [show cp - l + (ρ n).e = cp + (ρ n).e - l by omega] at this
    exact this
  · obtain rfl := Nat.eq_of_beq_eq_true hq
    obtain rfl : l = h := by omega
    simp only [Option.map_some, at_add]
    have := VR.tl (ρ := ρ) n (k + l * inf.size) k hn
    rw [show l + (ρ n).e - l = (ρ n).e by omega, Nat.sub_self]
    by_cases he : (ρ n).e = 0
    · rw [if_pos he] at this
      rw [if_pos (by omega)]
      exact this
    · rw [if_neg he] at this
      rw [if_neg (by omega)]
      exact this
theorem sliceMax_ok {t e : TypeId} {inf : TypeInfo} {x y : Operand} {lo hi : Option Operand} {n k len cp l h m : Nat} (ho : o.op = .slice t x lo hi (some y)) (hu : P.underlying t = some (.slice e)) (hi2 : P.info? e = some inf) (hx : evO f x = some (.slice (some ⟨n, k, none⟩) len cp) ∨ evO f x = some (.slice (some ⟨n, k, some 0⟩) len cp)) (hl : idxA f lo 0 = some l) (hh : idxA f hi len = some h) (hm : idxA f (some y) cp = some m) (h1 : l ≤ h) (h2 : h ≤ m) (h3 : m ≤ cp) (h4 : hi.isSome = true) :
    QOk P o f s (cutFx n k inf.size l h m) := by
  refine qOk_of (sem := fun ev => Instr.sliceAt t (ev x) (lo.map ev) (hi.map ev) (some (ev y))) (fun ev => slice_run ho ev) (fun ρ w a hr hf => ?_)
  obtain ⟨c', hn, hx2, hc⟩ : ∃ c', n < s.nx ∧ a.eval x = .slice (some ((ρ n).at k)) len c' ∧ cp ≤ c' := by
    obtain ⟨u, hu2⟩ : ∃ u, a.eval x = u := ⟨_, rfl⟩
    rcases hx with hx | hx
    · have hp := evO_sound hf hx
      rw [hu2] at hp
      cases hp
      rename_i hn
      exact ⟨_, hn, hu2, Nat.le_add_right _ _⟩
    · have hp := evO_sound hf hx
      rw [hu2] at hp
      cases hp
      rename_i hn
      exact ⟨_, hn, hu2, Nat.le_refl _⟩
  have hb := bounds_run P hf (mx := some y) (b := true) (len := len) (cap := c') hl hh (m := m) hm h1 h2 (by omega) (fun _ => h4) w
  refine ⟨_, by simp only [hx2]; exact sliceAt_run hu hi2 hb, ?_⟩
  unfold cutFx
  rcases hq : Nat.beq l m with _ | _
  · have hne : l ≠ m := Nat.ne_of_beq_eq_false hq
    rw [if_neg (by omega)]
    simp only [Option.map_some, at_add]
    exact VR.fx n (k + l * inf.size) (h - l) (m - l) hn
  · obtain rfl := Nat.eq_of_beq_eq_true hq
    obtain rfl : l = h := by omega
    rw [if_pos rfl, Nat.sub_self]
    exact VR.fx n k 0 0 hn
theorem sliceFx_ok {t e : TypeId} {inf : TypeInfo} {x : Operand} {lo hi : Option Operand} {n k len cp l h : Nat} (ho : o.op = .slice t x lo hi none) (hu : P.underlying t = some (.slice e)) (hi2 : P.info? e = some inf) (hx : evO f x = some (.slice (some ⟨n, k, some 0⟩) len cp)) (hl : idxA f lo 0 = some l) (hh : idxA f hi len = some h) (h1 : l ≤ h) (h2 : h ≤ cp) :
    QOk P o f s (cutFx n k inf.size l h cp) := by
  refine qOk_of (sem := fun ev => Instr.sliceAt t (ev x) (lo.map ev) (hi.map ev) none) (fun ev => slice_run ho ev) (fun ρ w a hr hf => ?_)
  have hp := evO_sound hf hx
  obtain ⟨u, hu2⟩ : ∃ u, a.eval x = u := ⟨_, rfl⟩
  rw [hu2] at hp
  cases hp
  rename_i hn
  have hb := bounds_run P hf (mx := none) (b := true) (len := len) (cap := cp) (m := cp) hl hh rfl h1 h2 (Nat.le_refl _) (fun h => by cases h) w
  refine ⟨_, by simp only [hu2]; exact sliceAt_run hu hi2 hb, ?_⟩
  unfold cutFx
  rcases hq : Nat.beq l cp with _ | _
  · have hne : l ≠ cp := Nat.ne_of_beq_eq_false hq
    rw [if_neg (by omega)]
    simp only [Option.map_some, at_add]
    exact VR.fx n (k + l * inf.size) (h - l) (cp - l) hn
  · obtain rfl := Nat.eq_of_beq_eq_true hq
    obtain rfl : l = h := by omega
    rw [if_pos rfl, Nat.sub_self]
    exact VR.fx n k 0 0 hn
end
end Go.Proofs.YthdjicolicokcaaGreatDoor.Ev
namespace Go.Proofs.YthdjicolicokcaaGreatDoor.Ev
open Go
theorem runPure_bind {α β : Type} (P : Program) (g : α → Sem β) : ∀ x : Sem α, runPure P (x >>= g) = (runPure P x).bind fun a => runPure P (g a)
  | .pure a => rfl
  | .program k => by
    show runPure P ((Sem.program k).bind g) = _
    exact runPure_bind P g (k P)
  | .mark _ k => by
    show runPure P (k.bind g) = _
    exact runPure_bind P g k
  | .choose q k => by
    show (match q.forced with | true => runPure P ((k 0).bind g) | false => none) = (match q.forced with | true => runPure P (k 0) | false => none).bind _
    cases q.forced
    · rfl
    · exact runPure_bind P g (k 0)
  | .load .. => rfl
  | .store .. => rfl
  | .new .. => rfl
  | .shape .. => rfl
  | .freeze .. => rfl
  | .frozen .. => rfl
  | .getObj .. => rfl
  | .setObj .. => rfl
  | .sys .. => rfl
  | .halt .. => rfl
def FoundR (ρ : Nat → Nm) (nx : Nat) : Option (Nat × Value) → Option (Nat × Value) → Prop
  | none, r => r = none
  | some (i, v), r => ∃ u, r = some (i, u) ∧ VR ρ nx v u
section
variable {ρ : Nat → Nm} {nx : Nat}
theorem findNow_sim {kd : TypeDesc} {k : Value} : ∀ {l m : List MapEntry} (i : Nat), MR ρ nx l m → (Instr.findNow kd k l i = none → Instr.findNow kd k m i = none) ∧ (∀ r, Instr.findNow kd k l i = some r → ∃ r', Instr.findNow kd k m i = some r' ∧ FoundR ρ nx r r')
  | [], [], i, _ => ⟨fun h => (by cases h), fun r h => by
      obtain rfl := Option.some.inj (show some none = some r from h)
      exact ⟨none, rfl, rfl⟩⟩
  | _, _, i, .cons kk v u b l m hk h hr => by
    have ih := findNow_sim (kd := kd) (k := k) (i + 1) hr
    unfold Instr.findNow
    cases hs : Instr.sameNow kd k kk with
    | none => exact ⟨fun _ => rfl, fun r h => by cases h⟩
    | some t =>
      cases t with
      | true =>
        refine ⟨fun h => (by cases h), fun r hr => ?_⟩
        obtain rfl := Option.some.inj (show some (some (i, v)) = some r from hr)
        exact ⟨_, rfl, u, rfl, h⟩
      | false => exact ih
theorem findAsking_sim {P : Program} {kt : TypeId} {k : Value} : ∀ {l m : List MapEntry} (i : Nat) {r}, MR ρ nx l m → runPure P (Instr.findAsking kt k l i) = some r → ∃ r', runPure P (Instr.findAsking kt k m i) = some r' ∧ FoundR ρ nx r r'
  | [], [], i, r, _, h => by
    obtain rfl := Option.some.inj (show some none = some r from h)
    exact ⟨none, rfl, rfl⟩
  | _, _, i, r, .cons kk v u b l m hk hv hr, h => by
    unfold Instr.findAsking at h ⊢
    rw [runPure_bind] at h ⊢
    simp only at h ⊢
    cases he : runPure P (Op.equal kt k kk) with
    | none =>
      rw [he] at h
      cases h
    | some t =>
      rw [he] at h
      cases t with
      | true =>
        obtain rfl := Option.some.inj (show some (some (i, v)) = some r from h)
        exact ⟨_, rfl, u, rfl, hv⟩
      | false =>
        exact findAsking_sim (i + 1) hr h
theorem findKey_sim {P : Program} {kt : TypeId} {kd : TypeDesc} (hu : P.underlying kt = some kd) {k : Value} {l m : List MapEntry} {r} (hm : MR ρ nx l m) (h : runPure P (Instr.findKey kt k l) = some r) : ∃ r', (∀ w, (Instr.findKey kt k m).run P w = .ok r' w) ∧ FoundR ρ nx r r' := by
  have hb : ∀ es, Instr.findKey kt k es = (underlying kt >>= fun d => match Instr.findNow d k es 0 with | some r => pure r | none => Instr.findAsking kt k es) := fun es => rfl
  have hun : runPure P (underlying kt) = some kd := by
    show runPure P (match P.underlying kt with | some d => pure d | none => stuck "no such type") = _
    rw [hu]
    rfl
  rw [hb, runPure_bind, hun] at h
  have h : runPure P (match Instr.findNow kd k l 0 with | some r => pure r | none => Instr.findAsking kt k l) = some r := h
  obtain ⟨n1, n2⟩ := findNow_sim (kd := kd) (k := k) 0 hm
  suffices hs : ∃ r', runPure P (Instr.findKey kt k m) = some r' ∧ FoundR ρ nx r r' by
    obtain ⟨r', h1, h2⟩ := hs
    exact ⟨r', fun w => runPure_run _ _ h1 w, h2⟩
  rw [hb, runPure_bind, hun]
  show ∃ r', runPure P (match Instr.findNow kd k m 0 with | some r => pure r | none => Instr.findAsking kt k m) = some r' ∧ _
  cases hf : Instr.findNow kd k l 0 with
  | none =>
    rw [hf] at h
    rw [n1 hf]
    exact findAsking_sim 0 hm h
  | some q =>
    rw [hf] at h
    obtain rfl := Option.some.inj (show some q = some r from h)
    obtain ⟨r', h1, h2⟩ := n2 q hf
    rw [h1]
    exact ⟨r', rfl, h2⟩
theorem MR.empty {l m : List MapEntry} (h : MR ρ nx l m) : m.isEmpty = l.isEmpty := by cases h <;> rfl
theorem HR.setMap {H : Nat → Option AO} {w : World} (h : HR ρ nx H w) {n c c' : Nat} {es es' : List MapEntry} {us : Array MapEntry} (hn : H n = some (.map es c)) (hm : MR ρ nx es' us.toList) (P : Program) :
    ∃ w', (setObj (ρ n).b (.map us c')).run P w = .ok () w' ∧ Step ρ nx H w ρ nx (updH H n (some (.map es' c'))) w' := by
  obtain ⟨hnx, es0, h1, _⟩ := h.obj n _ hn
  have hlt := h.old hn
  refine ⟨{ w with heap := w.heap.setIfInBounds (ρ n).b (.map us c') }, ?_, ?_⟩
  · show Sem.run P (.setObj _ _ (.pure ())) w = _
    unfold Sem.run
    rw [h1]
    rfl
  · have hat : (w.heap.setIfInBounds (ρ n).b (.map us c'))[(ρ n).b]? = some (.map us c') := Array.getElem?_setIfInBounds_self_of_lt hlt
    have hne : ∀ k, k ≠ (ρ n).b → (w.heap.setIfInBounds (ρ n).b (.map us c'))[k]? = w.heap[k]? := fun k hk => Array.getElem?_setIfInBounds_ne (Ne.symm hk)
    refine ⟨Ext.refl _ _, ⟨fun m o' hm2 => ?_, fun m m' o1 o2 hm1 hm2 he => ?_⟩, ⟨rfl, rfl, rfl, by simp, fun j _ hj => hne j (fun e => hj n _ hn e.symm)⟩, fun m o' hm2 => ?_⟩
    · rcases updH_get hm2 with ⟨rfl, e0⟩ | ⟨hne2, hm2⟩
      · obtain rfl := Option.some.inj e0
        exact ⟨hnx, us, hat, hm⟩
      · have h5 := h.obj m _ hm2
        refine ⟨h5.1, ?_⟩
        show OR _ _ _ _ (w.heap.setIfInBounds (ρ n).b (.map us c'))[(ρ m).b]?
        rw [hne _ (fun e => hne2 (h.inj m n _ _ hm2 hn e))]
        exact h5.2
    · have back : ∀ {m o'}, updH H n (some (.map es' c')) m = some o' → ∃ o2, H m = some o2 := fun {m o'} hm => by
        rcases updH_get hm with ⟨rfl, _⟩ | ⟨_, hm⟩
        · exact ⟨_, hn⟩
        · exact ⟨_, hm⟩
      obtain ⟨p1, hp1⟩ := back hm1
      obtain ⟨p2, hp2⟩ := back hm2
      exact h.inj _ _ _ _ hp1 hp2 he
    · rcases updH_get hm2 with ⟨rfl, _⟩ | ⟨_, hm2⟩
      · exact .inr ⟨m, _, hn, rfl⟩
      · exact .inr ⟨m, _, hm2, rfl⟩
end
end Go.Proofs.YthdjicolicokcaaGreatDoor.Ev
namespace Go.Proofs.YthdjicolicokcaaGreatDoor.Ev
open Go
noncomputable def nilCmp (P : Program) (d : TypeDesc) (x y : Value) : Option Bool := match d, x, y with
  | .pointer _, .pointer (some _), .pointer none => some false
  | .pointer _, .pointer none, .pointer (some _) => some false
  | .pointer e, .pointer (some ⟨n, k, none⟩), .pointer (some ⟨m, j, none⟩) => match Nat.beq n m, P.info? e with
    | true, some i => match Nat.beq i.size 0 with
      | true => none
      | false => some (Nat.beq k j)
    | _, _ => none
  | .slice _, .slice (some _) _ _, .slice none _ _ => some false
  | .slice _, .slice none _ _, .slice (some _) _ _ => some false
  | .map _ _, .map (some _), .map none => some false
  | .map _ _, .map none, .map (some _) => some false
  | .func _ _ _, .func _ _ _, .nilFunc => some false
  | .func _ _ _, .nilFunc, .func _ _ _ => some false
  | _, _, _ => none
section
variable {P : Program} {o : Oper} {f : T Value} {s s' : St} {v : Value}
theorem beq_addr (b o1 o2 : Nat) : ((⟨b, o1, none⟩ : Addr) == ⟨b, o2, none⟩) = Nat.beq o1 o2 := by
  rcases h : Nat.beq o1 o2 with _ | _
  · have hne := Nat.ne_of_beq_eq_false h
    refine beq_eq_false_iff_ne.2 (fun e => hne ?_)
    cases e
    rfl
  · obtain rfl := Nat.eq_of_beq_eq_true h
    exact beq_self_eq_true _
theorem beq_shift (s o1 o2 : Nat) : Nat.beq (s + o1) (s + o2) = Nat.beq o1 o2 := by
  rcases h : Nat.beq o1 o2 with _ | _
  · have hne := Nat.ne_of_beq_eq_false h
    rcases h2 : Nat.beq (s + o1) (s + o2) with _ | _
    · rfl
    · have := Nat.eq_of_beq_eq_true h2
      omega
  · obtain rfl := Nat.eq_of_beq_eq_true h
    exact Nat.beq_refl _
theorem nilCmp_in {t : TypeId} {d : TypeDesc} (hu : P.underlying t = some d) {ρ : Nat → Nm} {nx : Nat} {x y x' y' : Value} {r : Bool} (h : nilCmp P d x y = some r) (hx : VR ρ nx x x') (hy : VR ρ nx y y') (w : World) (dp : Nat) : (Op.equalIn (dp + 1) t x' y').run P w = .ok r w := by
  unfold nilCmp at h
  split at h
  · obtain rfl := Option.some.inj h
    cases hx
    cases hy
    simp only [Op.equalIn, Sem.run_bind, run_und hu, Result.andThen_ok]
    rfl
  · obtain rfl := Option.some.inj h
    cases hx
    cases hy
    simp only [Op.equalIn, Sem.run_bind, run_und hu, Result.andThen_ok]
    rfl
  · split at h
    · rename_i e n k m j _ _ i hn hi
      split at h
      · cases h
      · rename_i hz
        obtain rfl := Option.some.inj h
        obtain rfl := Nat.eq_of_beq_eq_true hn
        cases hx
        cases hy
        have hz2 : i.size ≠ 0 := Nat.ne_of_beq_eq_false hz
        simp only [Op.equalIn, Sem.run_bind, run_und hu, Result.andThen_ok, run_siz hi]
        rw [if_pos hz2]
        unfold sameAddr
        rw [if_pos (by exact beq_self_eq_true (ρ n).b)]
        show Result.ok ((ρ n).at k == (ρ n).at j) w = _
        unfold Nm.at
        rw [beq_addr, beq_shift]
    · cases h
  all_goals first
    | (cases h; done)
    | (obtain rfl := Option.some.inj h
       cases hx <;> cases hy <;>
       (simp only [Op.equalIn, Sem.run_bind, run_und hu, Result.andThen_ok]
        rfl))
theorem nilCmp_run {t : TypeId} {d : TypeDesc} (hu : P.underlying t = some d) {ρ : Nat → Nm} {nx : Nat} {x y x' y' : Value} {r : Bool} (h : nilCmp P d x y = some r) (hx : VR ρ nx x x') (hy : VR ρ nx y y') (w : World) : (Op.equal t x' y').run P w = .ok r w := nilCmp_in hu h hx hy w (Op.maxDepth - 1)
theorem nilGuard {op : BinOp} {t : TypeId} {d : TypeDesc} {ρ : Nat → Nm} {nx : Nat} {x y x' y' : Value} {a b : Operand} {r : Bool} (h : nilCmp P d x y = some r) (hx : VR ρ nx x x') (hy : VR ρ nx y y') (w : World) : (eqGuard op t a b x' y').run P w = .ok () w := by
  unfold nilCmp at h
  split at h
  all_goals first
    | (cases h; done)
    | (cases hx <;> cases hy <;> cases op <;> rfl)
theorem nilBin {op : BinOp} {t : TypeId} {d : TypeDesc} {ρ : Nat → Nm} {nx : Nat} {x y x' y' : Value} {r : Bool} (h : nilCmp P d x y = some r) (hx : VR ρ nx x x') (hy : VR ρ nx y y') : (op = .eql → binOp op t x' y' = (do pure (.bool (← Op.equal t x' y')))) ∧ (op = .neq → binOp op t x' y' = (do pure (.bool (!(← Op.equal t x' y'))))) := by
  unfold nilCmp at h
  split at h
  all_goals first
    | (cases h; done)
    | (cases hx <;> cases hy <;> exact ⟨fun e => (by subst e; rfl), fun e => (by subst e; rfl)⟩)
theorem nilEql_ok {t : TypeId} {d : TypeDesc} {x y : Operand} {u z : Value} {q : TypeId} {r : Bool} (ho : o.op = .binOp .eql t x y q) (hu : P.underlying t = some d) (hx : evO f x = some u) (hy : evO f y = some z) (h : nilCmp P d u z = some r) : QOk P o f s (.bool r) := by
  refine qOk_of (sem := fun ev => do eqGuard .eql t x y (ev x) (ev y); binOp .eql t (ev x) (ev y)) (fun ev => by unfold execOp; rw [ho]) (fun ρ w a hr hf => ?_)
  refine ⟨.bool r, ?_, .bool _⟩
  simp only [Sem.run_bind, nilGuard h (evO_sound hf hx) (evO_sound hf hy), (nilBin h (evO_sound hf hx) (evO_sound hf hy)).1 rfl, nilCmp_run hu h (evO_sound hf hx) (evO_sound hf hy), Result.andThen_ok, Sem.run_pure]
theorem nilNeq_ok {t : TypeId} {d : TypeDesc} {x y : Operand} {u z : Value} {q : TypeId} {r : Bool} (ho : o.op = .binOp .neq t x y q) (hu : P.underlying t = some d) (hx : evO f x = some u) (hy : evO f y = some z) (h : nilCmp P d u z = some r) : QOk P o f s (.bool (!r)) := by
  refine qOk_of (sem := fun ev => do eqGuard .neq t x y (ev x) (ev y); binOp .neq t (ev x) (ev y)) (fun ev => by unfold execOp; rw [ho]) (fun ρ w a hr hf => ?_)
  refine ⟨.bool (!r), ?_, .bool _⟩
  simp only [Sem.run_bind, nilGuard h (evO_sound hf hx) (evO_sound hf hy), (nilBin h (evO_sound hf hx) (evO_sound hf hy)).2 rfl, nilCmp_run hu h (evO_sound hf hx) (evO_sound hf hy), Result.andThen_ok, Sem.run_pure]
end
end Go.Proofs.YthdjicolicokcaaGreatDoor.Ev
namespace Go.Proofs.YthdjicolicokcaaGreatDoor.Ev
open Go
section
variable {ρ : Nat → Nm} {nx : Nat}
theorem AR.set {a b : Array Value} (h : AR ρ nx a b) (i : Nat) {x y : Value} (hxy : VR ρ nx x y) : AR ρ nx (a.setIfInBounds i x) (b.setIfInBounds i y) := by
  refine ⟨by simp [h.1], fun j u v hu hv => ?_⟩
  rw [Array.getElem?_setIfInBounds] at hu hv
  by_cases e : i = j
  · rw [if_pos e] at hu hv
    split at hu
    · split at hv
      · obtain rfl := Option.some.inj hu
        obtain rfl := Option.some.inj hv
        exact hxy
      · cases hv
    · cases hu
  · rw [if_neg e] at hu hv
    exact h.2 j u v hu hv
inductive PR (ρ : Nat → Nm) (nx : Nat) : List (Nat × Value) → List (Nat × Value) → Prop
  | nil : PR ρ nx [] []
  | cons (i : Nat) (v u : Value) (l m : List (Nat × Value)) (h : VR ρ nx v u) (hr : PR ρ nx l m) : PR ρ nx ((i, v) :: l) ((i, u) :: m)
theorem foldl_set (off : Nat) : ∀ (l m : List Value) (k : Nat) (a b : Array Value), l.length = m.length → (∀ (i : Nat) x y, l[i]? = some x → m[i]? = some y → VR ρ nx x y) → AR ρ nx a b →
    AR ρ nx ((l.zipIdx k).foldl (fun cs (p : Value × Nat) => cs.setIfInBounds (off + p.2) p.1) a) ((m.zipIdx k).foldl (fun cs (p : Value × Nat) => cs.setIfInBounds (off + p.2) p.1) b)
  | [], [], _, _, _, _, _, h => h
  | [], _ :: _, _, _, _, h, _, _ => by simp at h
  | _ :: _, [], _, _, _, h, _, _ => by simp at h
  | x :: l, y :: m, k, a, b, h1, h2, h => by
    simp only [List.zipIdx_cons, List.foldl_cons]
    exact foldl_set off l m (k + 1) _ _ (by simpa using h1) (fun i u v hu hv => h2 (i + 1) u v (by simpa using hu) (by simpa using hv)) (h.set _ (h2 0 x y rfl rfl))
theorem zip_list (off : Nat) (v cells : Array Value) : v.zipIdx.foldl (fun cs (c, j) => cs.setIfInBounds (off + j) c) cells = (v.toList.zipIdx).foldl (fun cs (p : Value × Nat) => cs.setIfInBounds (off + p.2) p.1) cells := by
  rw [← Array.foldl_toList, Array.toList_zipIdx]
theorem fill_sim {place : Nat → Option (Nat × Nat)} : ∀ {l m : List (Nat × Value)} {a b r : Array Value}, PR ρ nx l m → AR ρ nx a b → Instr.fill place a l = some r → ∃ r', Instr.fill place b m = some r' ∧ AR ρ nx r r'
  | [], [], a, b, r, _, h, hr => by
    obtain rfl := Option.some.inj (show some a = some r from hr)
    exact ⟨b, rfl, h⟩
  | _, _, a, b, r, .cons i v u l m hv hp, h, hr => by
    unfold Instr.fill at hr ⊢
    cases hpl : place i with
    | none =>
      rw [hpl] at hr
      cases hr
    | some os =>
      rw [hpl] at hr
      obtain ⟨off, size⟩ := os
      have hc := hv.cells
      simp only at hr ⊢
      rw [zip_list] at hr ⊢
      rw [← hc.1, ← h.1]
      split at hr
      · cases hr
      · rename_i hn
        rw [if_neg hn]
        exact fill_sim hp (foldl_set off _ _ 0 _ _ (by simpa using hc.1) (fun j x y hx hy => hc.2 j x y (by simpa using hx) (by simpa using hy)) h) hr
end
noncomputable def evParts (f : T Value) (xs : List (Nat × Operand)) : Option (List (Nat × Value)) := match xs with
  | [] => some []
  | x :: xs => match evO f x.2 with
    | some v => match evParts f xs with
      | some vs => some ((x.1, v) :: vs)
      | none => none
    | none => none
theorem evParts_sound {ρ : Nat → Nm} {nx : Nat} {f : T Value} {a : Act} (hf : FR ρ nx f a) : ∀ {xs : List (Nat × Operand)} {vs : List (Nat × Value)}, evParts f xs = some vs → PR ρ nx vs (xs.map fun (i, x) => (i, a.eval x))
  | [], vs, h => by
    obtain rfl := Option.some.inj (show some [] = some vs from h)
    exact .nil
  | (i, x) :: xs, vs, h => by
    unfold evParts at h
    split at h
    · rename_i v hv
      split at h
      · rename_i us hus
        obtain rfl := Option.some.inj h
        exact .cons i v (a.eval x) us _ (evO_sound hf hv) (evParts_sound hf hus)
      · cases h
    · cases h
section
variable {P : Program} {o : Oper} {f : T Value} {s s' : St} {v : Value}
theorem build_run {t : TypeId} {ps : Array (Nat × Operand)} (ho : o.op = .build t ps) (ev : Operand → Value) : execOp ev o = (do pure (.value (← Instr.build t (ps.map fun (i, x) => (i, ev x))))) := by unfold execOp; rw [ho]
theorem build_ok {t : TypeId} {ps : Array (Nat × Operand)} {fs : Array Field} {inf : TypeInfo} {z : Value} {places : Array (Nat × Nat)} {vs : List (Nat × Value)} {cells : Array Value} (ho : o.op = .build t ps) (hu : P.underlying t = some (.struct fs)) (hi : P.info? t = some inf) (hz : inf.zero = some z) (hfz : flat z = true) (hp : runPure P (fs.mapM fun fd => do pure (fd.offset, ← sizeOf fd.type)) = some places) (hv : evParts f ps.toList = some vs) (hfill : Instr.fill (places[·]?) z.cells vs = some cells) : QOk P o f s (.agg cells) := by
  refine qOk_of (sem := fun ev => Instr.build t (ps.map fun (i, x) => (i, ev x))) (fun ev => build_run ho ev) (fun ρ w a hr hf => ?_)
  have hps := evParts_sound hf hv
  obtain ⟨cells', h1, h2⟩ := fill_sim hps (flat_vr (ρ := ρ) (nx := s.nx) hfz).cells hfill
  refine ⟨.agg cells', ?_, .agg _ _ h2.1 h2.2⟩
  have h1' : Instr.fill (places[·]?) z.cells (ps.map fun (i, x) => (i, a.eval x)).toList = some cells' := by
    rw [Array.toList_map]
    exact h1
  simp only [Instr.build, Sem.run_bind, run_zero hi hz, run_und hu, Result.andThen_ok, runPure_run _ _ hp w, h1', Sem.run_pure]
theorem buildArr_ok {t e : TypeId} {n : Nat} {ps : Array (Nat × Operand)} {inf ie : TypeInfo} {z : Value} {vs : List (Nat × Value)} {cells : Array Value} (ho : o.op = .build t ps) (hu : P.underlying t = some (.array n e)) (hi : P.info? t = some inf) (hz : inf.zero = some z) (hfz : flat z = true) (hie : P.info? e = some ie) (hv : evParts f ps.toList = some vs) (hfill : Instr.fill (fun i => some (i * ie.size, ie.size)) z.cells vs = some cells) : QOk P o f s (.agg cells) := by
  refine qOk_of (sem := fun ev => Instr.build t (ps.map fun (i, x) => (i, ev x))) (fun ev => build_run ho ev) (fun ρ w a hr hf => ?_)
  have hps := evParts_sound hf hv
  obtain ⟨cells', h1, h2⟩ := fill_sim hps (flat_vr (ρ := ρ) (nx := s.nx) hfz).cells hfill
  refine ⟨.agg cells', ?_, .agg _ _ h2.1 h2.2⟩
  have h1' : Instr.fill (fun i => some (i * ie.size, ie.size)) z.cells (ps.map fun (i, x) => (i, a.eval x)).toList = some cells' := by
    rw [Array.toList_map]
    exact h1
  simp only [Instr.build, Sem.run_bind, run_zero hi hz, run_und hu, Result.andThen_ok, run_siz hie, h1', Sem.run_pure]
theorem sl_new {ρ : Nat → Nm} {nx b l : Nat} : VR (upd ρ nx ⟨b, 0, 0⟩) (nx + 1) (.slice (some ⟨nx, 0, none⟩) l l) (.slice (some ⟨b, 0, none⟩) l l) := sl_at (ρ := ρ) (nx := nx) (l := l) (c := l) (b := b) (s := 0) (e := 0)
theorem buildSlice_ok {t e : TypeId} {n : Nat} {ps : Array (Nat × Operand)} {ie : TypeInfo} {z : Value} {vs : List (Nat × Value)} {cells : Array Value} (ho : o.op = .buildSlice t n ps) (hu : P.underlying t = some (.slice e)) (hie : P.info? e = some ie) (hz : ie.zero = some z) (hn : n * ie.size ≤ 2 ^ 24) (h0 : n * ie.size ≠ 0) (hv : evParts f ps.toList = some vs) (hfill : Instr.fill (fun i => some (i * ie.size, ie.size)) ((Array.range (n * ie.size)).map (z.cells[· % z.cells.size]!)) vs = some cells)
    (hrow : ∀ (i : Nat) x, ((Array.range (n * ie.size)).map (z.cells[· % z.cells.size]!))[i]? = some x → flat x = true) :
    ValOk P o f s (.slice (some ⟨s.nx, 0, none⟩) n n) (s.new (.cells (ofL cells.toList) cells.size e ie.size 0)) := by
  refine valOk_of (sem := fun ev => Instr.buildSlice t n (ps.map fun (i, x) => (i, ev x))) (fun ev => by unfold execOp; rw [ho]) (fun ρ w a hr hf => ?_)
  have hps := evParts_sound hf hv
  have har : AR ρ s.nx ((Array.range (n * ie.size)).map (z.cells[· % z.cells.size]!)) ((Array.range (n * ie.size)).map (z.cells[· % z.cells.size]!)) := ⟨rfl, fun i x y hx hy => by
    obtain rfl := Option.some.inj (hx.symm.trans hy)
    exact flat_vr (hrow i x hx)⟩
  obtain ⟨cells', h1, h2⟩ := fill_sim hps har hfill
  refine ⟨_, _, .slice (some ⟨w.heap.size, 0, none⟩) n n, ?_, (newRow_sim hr h2 e ie.size).less get_updH, sl_new⟩
  have h1' : Instr.fill (fun i => some (i * ie.size, ie.size)) ((Array.range (n * ie.size)).map (z.cells[· % z.cells.size]!)) (ps.map fun (i, x) => (i, a.eval x)).toList = some cells' := by
    rw [Array.toList_map]
    exact h1
  have hgt : ¬ n * ie.size > 2 ^ 24 := by omega
  simp only [Instr.buildSlice, Sem.run_bind, run_und hu, Result.andThen_ok, run_siz hie, if_neg hgt, if_neg h0, run_zero hie hz, h1', Sem.run_pure]
  rfl
theorem buildSlice0_ok {t e : TypeId} {ps : Array (Nat × Operand)} {ie : TypeInfo} (ho : o.op = .buildSlice t 0 ps) (hu : P.underlying t = some (.slice e)) (hie : P.info? e = some ie) (hps : ps.toList = []) : ValOk P o f s (.slice (some ⟨s.nx, 0, none⟩) 0 0) (s.new (.cells .leaf 0 e ie.size 0)) := by
  refine valOk_of (sem := fun ev => Instr.buildSlice t 0 (ps.map fun (i, x) => (i, ev x))) (fun ev => by unfold execOp; rw [ho]) (fun ρ w a hr hf => ?_)
  refine ⟨_, _, .slice (some ⟨w.heap.size, 0, none⟩) 0 0, ?_, (newRow_sim hr (vs := #[]) (us := #[]) ⟨rfl, fun i x y hx => by simp at hx⟩ e ie.size).less get_updH, sl_new⟩
  have hm : (ps.map fun (i, x) => (i, a.eval x)).toList = [] := by rw [Array.toList_map, hps]; rfl
  have hgt : ¬ 0 > 2 ^ 24 := Nat.not_lt_zero _
  have hr0 : ∀ g : Nat → Value, (Array.range 0).map g = #[] := fun g => by simp
  simp only [Instr.buildSlice, Sem.run_bind, run_und hu, Result.andThen_ok, run_siz hie, Nat.zero_mul, hm, if_neg hgt, if_true, Sem.run_pure, hr0]
  rfl
theorem makeMap_run {t : TypeId} (ho : o.op = .makeMap t none) (ev : Operand → Value) : execOp ev o = (do pure (.value (← Instr.makeMap t none))) := by unfold execOp; rw [ho]; rfl
theorem makeMap_ok {t : TypeId} (ho : o.op = .makeMap t none) : ValOk P o f s (.map (some s.nx)) (s.new (.map [] 0)) := by
  refine valOk_of (sem := fun _ => Instr.makeMap t none) (fun ev => makeMap_run ho ev) (fun ρ w a hr _ => ?_)
  have st := hr.new (.map #[] 0) (.map [] 0) ⟨#[], rfl, .nil⟩
  refine ⟨_, _, .map (some w.heap.size), rfl, st.less get_updH, ?_⟩
  have h := VR.map (ρ := upd ρ s.nx ⟨w.heap.size, 0, 0⟩) s.nx (Nat.lt_succ_self s.nx)
  rw [upd_at] at h
  exact h
end
end Go.Proofs.YthdjicolicokcaaGreatDoor.Ev
namespace Go.Proofs.YthdjicolicokcaaGreatDoor.Ev
open Go
theorem arr_empty {α : Type} (a : Array α) : a.isEmpty = a.toList.isEmpty := by
  cases a with
  | mk l => cases l <;> rfl
noncomputable def lookR (ok : Bool) (z : Value) (r : Option (Nat × Value)) : Value := match ok, r with
  | true, some (_, v) => .tuple #[v, .bool true]
  | true, none => .tuple #[z, .bool false]
  | false, some (_, v) => v
  | false, none => z
theorem pair_vr {ρ : Nat → Nm} {nx : Nat} {a b c d : Value} (h1 : VR ρ nx a c) (h2 : VR ρ nx b d) : VR ρ nx (.tuple #[a, b]) (.tuple #[c, d]) := .tuple _ _ rfl (fun i x y hx hy => by
  match i with
  | 0 =>
    simp at hx hy
    subst hx hy
    exact h1
  | 1 =>
    simp at hx hy
    subst hx hy
    exact h2
  | i + 2 => simp at hx)
section
variable {P : Program} {o : Oper} {f : T Value} {s s' : St} {v : Value}
theorem look_run {xt k e : TypeId} {ie : TypeInfo} {z : Value} {r' : Option (Nat × Value)} {b c : Nat} {kv : Value} {ok : Bool} {es' : Array MapEntry} {w : World} (hu : P.underlying xt = some (.map k e)) (hes : w.heap[b]? = some (.map es' c)) (hck : (Instr.checkKey es'.isEmpty 10000 k kv).run P w = .ok () w) (hfk : (Instr.findKey k kv es'.toList).run P w = .ok r' w) (hi : P.info? e = some ie) (hz : ie.zero = some z) : (Instr.lookup xt (.map (some b)) kv ok).run P w = .ok (lookR ok z r') w := by
  simp only [Instr.lookup, Sem.run_bind, run_und hu, Result.andThen_ok, run_getObj P _ hes (fun _ _ _ h => by cases h), Sem.run_pure, hck, hfk]
  cases r' with
  | none =>
    simp only [Sem.run_bind, run_zero hi hz, Result.andThen_ok, Sem.run_pure]
    cases ok <;> rfl
  | some p => cases ok <;> rfl
theorem lookNil_run {xt k e : TypeId} {ie : TypeInfo} {z : Value} {kv : Value} {ok : Bool} {w : World} (hu : P.underlying xt = some (.map k e)) (hck : (Instr.checkKey true 10000 k kv).run P w = .ok () w) (hfk : (Instr.findKey k kv []).run P w = .ok none w) (hi : P.info? e = some ie) (hz : ie.zero = some z) : (Instr.lookup xt (.map none) kv ok).run P w = .ok (lookR ok z none) w := by
  have he : (#[] : Array MapEntry).isEmpty = true := rfl
  simp only [Instr.lookup, Sem.run_bind, run_und hu, Result.andThen_ok, Sem.run_pure, he, hck, hfk, run_zero hi hz]
  cases ok <;> rfl
theorem lookup_ok {xt k e : TypeId} {kd : TypeDesc} {ie : TypeInfo} {z kv : Value} {r : Option (Nat × Value)} {x ix : Operand} {ok : Bool} {n clock : Nat} {es : List MapEntry} (ho : o.op = .lookup xt x ix ok) (hu : P.underlying xt = some (.map k e)) (hkd : P.underlying k = some kd) (hi : P.info? e = some ie) (hz : ie.zero = some z) (hfz : flat z = true) (hx : evO f x = some (.map (some n))) (hn : s.h.get n = some (.map es clock)) (hix : evO f ix = some kv) (hfl : flat kv = true) (hck : runPure P (Instr.checkKey es.isEmpty 10000 k kv) = some ()) (hfk : runPure P (Instr.findKey k kv es) = some r) : QOk P o f s (lookR ok z r) := by
  refine qOk_of (sem := fun ev => Instr.lookup xt (ev x) (ev ix) ok) (fun ev => by unfold execOp; rw [ho]) (fun ρ w a hr hf => ?_)
  have hkv := flat_eq hfl (evO_sound hf hix)
  have hp := evO_sound hf hx
  obtain ⟨u, hu2⟩ : ∃ u, a.eval x = u := ⟨_, rfl⟩
  rw [hu2] at hp
  cases hp
  obtain ⟨_, es', h1, h2⟩ := hr.obj n _ hn
  obtain ⟨r', h3, h4⟩ := findKey_sim hkd h2 hfk
  have hemp : es'.isEmpty = es.isEmpty := by rw [arr_empty, h2.empty]
  refine ⟨lookR ok z r', ?_, ?_⟩
  · simp only [hu2, hkv]
    exact look_run hu h1 (by rw [hemp]; exact runPure_run _ _ hck w) (h3 w) hi hz
  · cases r with
    | none =>
      obtain rfl := h4
      cases ok
      · exact flat_vr hfz
      · exact pair_vr (flat_vr hfz) (.bool _)
    | some p =>
      obtain ⟨i, v⟩ := p
      obtain ⟨u, rfl, hv⟩ := h4
      cases ok
      · exact hv
      · exact pair_vr hv (.bool _)
theorem lookupNil_ok {xt k e : TypeId} {ie : TypeInfo} {z kv : Value} {x ix : Operand} {ok : Bool} (ho : o.op = .lookup xt x ix ok) (hu : P.underlying xt = some (.map k e)) (hi : P.info? e = some ie) (hz : ie.zero = some z) (hfz : flat z = true) (hx : evO f x = some (.map none)) (hix : evO f ix = some kv) (hfl : flat kv = true) (hck : runPure P (Instr.checkKey true 10000 k kv) = some ()) (hfk : runPure P (Instr.findKey k kv []) = some none) : QOk P o f s (lookR ok z none) := by
  refine qOk_of (sem := fun ev => Instr.lookup xt (ev x) (ev ix) ok) (fun ev => by unfold execOp; rw [ho]) (fun ρ w a hr hf => ?_)
  have hkv := flat_eq hfl (evO_sound hf hix)
  have hp := evO_sound hf hx
  obtain ⟨u, hu2⟩ : ∃ u, a.eval x = u := ⟨_, rfl⟩
  rw [hu2] at hp
  cases hp
  refine ⟨lookR ok z none, ?_, ?_⟩
  · simp only [hu2, hkv]
    exact lookNil_run hu (runPure_run _ _ hck w) (runPure_run _ _ hfk w) hi hz
  · cases ok
    · exact flat_vr hfz
    · exact pair_vr (flat_vr hfz) (.bool _)
end
def setE (k v : Value) : List MapEntry → Nat → List MapEntry
  | [], _ => []
  | e :: es, 0 => ⟨k, v, e.born⟩ :: es
  | e :: es, i + 1 => e :: setE k v es i
section
variable {ρ : Nat → Nm} {nx : Nat}
theorem setE_modify (k v : Value) : ∀ (l : List MapEntry) (i : Nat), setE k v l i = l.modify i fun e => { e with key := k, val := v }
  | [], 0 => rfl
  | [], _ + 1 => rfl
  | e :: es, 0 => rfl
  | e :: es, i + 1 => by
    rw [List.modify_succ_cons, ← setE_modify k v es i]
    rfl
theorem MR.setE {l m : List MapEntry} (h : MR ρ nx l m) {k v u : Value} (hk : flat k = true) (hv : VR ρ nx v u) : ∀ i, MR ρ nx (setE k v l i) (setE k u m i) := by
  induction h with
  | nil => exact fun i => .nil
  | cons kk x y b l m hkk hxy hr ih =>
    intro i
    cases i with
    | zero => exact .cons k v u b l m hk hv hr
    | succ i => exact .cons kk x y b _ _ hkk hxy (ih i)
theorem MR.push {l m : List MapEntry} (h : MR ρ nx l m) {k v u : Value} (c : Nat) (hk : flat k = true) (hv : VR ρ nx v u) : MR ρ nx (l ++ [⟨k, v, c⟩]) (m ++ [⟨k, u, c⟩]) := by
  induction h with
  | nil => exact .cons k v u c [] [] hk hv .nil
  | cons kk x y b l m hkk hxy _ ih => exact .cons kk x y b _ _ hkk hxy ih
theorem MR.erase {l m : List MapEntry} (h : MR ρ nx l m) : ∀ i, MR ρ nx (l.eraseIdx i) (m.eraseIdx i) := by
  induction h with
  | nil => exact fun i => .nil
  | cons kk x y b l m hkk hxy hr ih =>
    intro i
    cases i with
    | zero => exact hr
    | succ i => exact .cons kk x y b _ _ hkk hxy (ih i)
theorem MR.at {l m : List MapEntry} (h : MR ρ nx l m) : ∀ (i : Nat) e, l[i]? = some e → ∃ e', m[i]? = some e' ∧ e'.key = e.key ∧ e'.born = e.born ∧ VR ρ nx e.val e'.val := by
  induction h with
  | nil => exact fun i e h => by simp at h
  | cons kk x y b l m hkk hxy hr ih =>
    intro i e he
    cases i with
    | zero =>
      simp at he
      subst he
      exact ⟨⟨kk, y, b⟩, by simp, rfl, rfl, hxy⟩
    | succ i => exact ih i e (by simpa using he)
end
end Go.Proofs.YthdjicolicokcaaGreatDoor.Ev
namespace Go.Proofs.YthdjicolicokcaaGreatDoor.Ev
open Go
section
variable {P : Program} {o : Oper} {f : T Value} {s s' : St} {v : Value}
theorem mapUpdate_run {t : TypeId} {m k x : Operand} (ho : o.op = .mapUpdate t m k x ∨ o.op = .insert t m k x) (ev : Operand → Value) : execOp ev o = (do Instr.mapUpdate t (ev m) (ev k) (ev x); pure .skip) := by
  unfold execOp
  rcases ho with ho | ho <;> rw [ho]
structure MapT (P : Program) (f : T Value) (s : St) (t : TypeId) (m k : Operand) (kt et : TypeId) (kd : TypeDesc) (n clock : Nat) (es : List MapEntry) (kv : Value) (r : Option (Nat × Value)) : Prop where
  und : P.underlying t = some (.map kt et)
  kind : P.underlying kt = some kd
  evm : evO f m = some (.map (some n))
  here : s.h.get n = some (.map es clock)
  evk : evO f k = some kv
  flat : flat kv = true
  found : runPure P (Instr.findKey kt kv es) = some r
theorem MapT.sim {t : TypeId} {m k : Operand} {kt et : TypeId} {kd : TypeDesc} {n clock : Nat} {es : List MapEntry} {kv : Value} {r : Option (Nat × Value)} (T : MapT P f s t m k kt et kd n clock es kv r) {ρ : Nat → Nm} {w : World} {a : Act} (hr : SR ρ s w) (hf : FR ρ s.nx f a) :
    a.eval m = .map (some (ρ n).b) ∧ a.eval k = kv ∧ ∃ es' r', w.heap[(ρ n).b]? = some (.map es' clock) ∧ MR ρ s.nx es es'.toList ∧ es'.isEmpty = es.isEmpty ∧ (∀ w, (Instr.findKey kt kv es'.toList).run P w = .ok r' w) ∧ FoundR ρ s.nx r r' := by
  have hkv := flat_eq T.flat (evO_sound hf T.evk)
  have hp := evO_sound hf T.evm
  obtain ⟨u, hu2⟩ : ∃ u, a.eval m = u := ⟨_, rfl⟩
  rw [hu2] at hp
  cases hp
  obtain ⟨_, es', h1, h2⟩ := hr.obj n _ T.here
  obtain ⟨r', h3, h4⟩ := findKey_sim T.kind h2 T.found
  exact ⟨hu2, hkv, es', r', h1, h2, by rw [arr_empty, h2.empty], h3, h4⟩
theorem updateNew_ok {t : TypeId} {m k x : Operand} {kt et : TypeId} {kd : TypeDesc} {n clock : Nat} {es : List MapEntry} {kv : Value} (ho : o.op = .mapUpdate t m k x ∨ o.op = .insert t m k x) (T : MapT P f s t m k kt et kd n clock es kv none) (hck : runPure P (Instr.checkKey false 10000 kt kv) = some ()) (hx : evO f x = some v) :
    SkipOk P o f s ⟨s.h.set (.map (es ++ [⟨kv, v, clock⟩]) (clock + 1)) n, s.nx⟩ := by
  refine skipOk_of (sem := fun ev => Instr.mapUpdate t (ev m) (ev k) (ev x)) (fun ev => mapUpdate_run ho ev) (fun ρ w a hr hf => ?_)
  obtain ⟨hm, hk, es', r', h1, h2, h3, h4, h5⟩ := T.sim hr hf
  obtain rfl := h5
  obtain ⟨w', hw, st⟩ := hr.setMap (us := es'.push ⟨kv, a.eval x, clock⟩) (c' := clock + 1) (es' := es ++ [⟨kv, v, clock⟩]) T.here (by rw [Array.toList_push]; exact h2.push clock T.flat (evO_sound hf hx)) P
  refine ⟨ρ, w', ?_, st.less get_updH⟩
  simp only [hm, hk, Instr.mapUpdate, Sem.run_bind, run_und T.und, Result.andThen_ok, run_getObj P _ h1 (fun _ _ _ h => by cases h), runPure_run _ _ hck w, h4 w, hw]
theorem updateOld_ok {t : TypeId} {m k x : Operand} {kt et : TypeId} {kd : TypeDesc} {n clock i : Nat} {es : List MapEntry} {kv v0 : Value} {e0 : MapEntry} (ho : o.op = .mapUpdate t m k x ∨ o.op = .insert t m k x) (T : MapT P f s t m k kt et kd n clock es kv (some (i, v0))) (hck : runPure P (Instr.checkKey false 10000 kt kv) = some ()) (hx : evO f x = some v) (hi : es[i]? = some e0) (hb : Instr.sameBits 10000 e0.key kv = true) :
    SkipOk P o f s ⟨s.h.set (.map (setE kv v es i) clock) n, s.nx⟩ := by
  refine skipOk_of (sem := fun ev => Instr.mapUpdate t (ev m) (ev k) (ev x)) (fun ev => mapUpdate_run ho ev) (fun ρ w a hr hf => ?_)
  obtain ⟨hm, hk, es', r', h1, h2, h3, h4, h5⟩ := T.sim hr hf
  obtain ⟨u, rfl, hvu⟩ := h5
  obtain ⟨e', he, hke, _⟩ := h2.at i e0 hi
  obtain ⟨w', hw, st⟩ := hr.setMap (us := es'.modify i fun e => { e with key := kv, val := a.eval x }) (c' := clock) (es' := setE kv v es i) T.here (by rw [Array.toList_modify, ← setE_modify]; exact h2.setE T.flat (evO_sound hf hx) i) P
  refine ⟨ρ, w', ?_, st.less get_updH⟩
  have hstay : (Instr.keyThatStays (((es'[i]?).map (·.key)).getD kv) kv).run P w = .ok kv w := by
    have : es'[i]? = some e' := by simpa using he
    rw [this]
    show (Instr.keyThatStays e'.key kv).run P w = _
    rw [hke]
    unfold Instr.keyThatStays
    rw [if_pos hb]
    rfl
  simp only [hm, hk, Instr.mapUpdate, Sem.run_bind, run_und T.und, Result.andThen_ok, run_getObj P _ h1 (fun _ _ _ h => by cases h), runPure_run _ _ hck w, h4 w, hstay, hw]
theorem delete_run {c : Call} {m k : Operand} (ho : o.op = .call c) (hc : c.callee = .builtin .delete) (ha : c.args = #[m, k]) (ev : Operand → Value) : execOp ev o = (do pure (.value (← Builtin.delete_ c.argTypes o.type #[ev m, ev k]))) := by
  rw [builtin_run ho hc ev, ha, map2 ev]
  rfl
noncomputable def leftE (es : List MapEntry) (r : Option (Nat × Value)) : List MapEntry := match r with
  | some (i, _) => es.eraseIdx i
  | none => es
theorem delete_ok {t : TypeId} {c : Call} {m k : Operand} {kt et : TypeId} {kd : TypeDesc} {n clock : Nat} {es : List MapEntry} {kv : Value} {r : Option (Nat × Value)} (ho : o.op = .call c) (hc : c.callee = .builtin .delete) (ha : c.args = #[m, k]) (ht : c.argTypes[0]? = some t) (T : MapT P f s t m k kt et kd n clock es kv r) (hck : runPure P (Instr.checkKey es.isEmpty 10000 kt kv) = some ()) :
    ValOk P o f s (.tuple #[]) ⟨s.h.set (.map (leftE es r) clock) n, s.nx⟩ := by
  refine valOk_of (sem := fun ev => Builtin.delete_ c.argTypes o.type #[ev m, ev k]) (fun ev => delete_run ho hc ha ev) (fun ρ w a hr hf => ?_)
  obtain ⟨hm, hk, es', r', h1, h2, h3, h4, h5⟩ := T.sim hr hf
  have e0 : (#[a.eval m, a.eval k] : Array Value)[0]? = some (a.eval m) := rfl
  have e1 : (#[a.eval m, a.eval k] : Array Value)[1]? = some (a.eval k) := rfl
  have hck' : (Instr.checkKey es'.isEmpty 10000 kt kv).run P w = .ok () w := by rw [h3]; exact runPure_run _ _ hck w
  have nil : VR ρ s.nx (.tuple #[]) (.tuple #[]) := .tuple _ _ rfl (fun i x y hx => by simp at hx)
  cases r with
  | none =>
    obtain rfl := h5
    obtain ⟨w', hw, st⟩ := hr.setMap (us := es') (c' := clock) (es' := es) T.here h2 P
    refine ⟨ρ, w', _, ?_, st.less get_updH, nil⟩
    simp only [Builtin.delete_, ht, e0, e1]
    simp only [hm, hk, Sem.run_bind, run_und T.und, Result.andThen_ok, run_getObj P _ h1 (fun _ _ _ h => by cases h), hck', h4 w, hw, Sem.run_pure]
  | some p =>
    obtain ⟨i, v0⟩ := p
    obtain ⟨u, rfl, _⟩ := h5
    obtain ⟨w', hw, st⟩ := hr.setMap (us := es'.eraseIdxIfInBounds i) (c' := clock) (es' := es.eraseIdx i) T.here (by rw [Array.toList_eraseIdxIfInBounds]; exact h2.erase i) P
    refine ⟨ρ, w', _, ?_, st.less get_updH, nil⟩
    simp only [Builtin.delete_, ht, e0, e1]
    simp only [hm, hk, Sem.run_bind, run_und T.und, Result.andThen_ok, run_getObj P _ h1 (fun _ _ _ h => by cases h), hck', h4 w, hw, Sem.run_pure]
end
end Go.Proofs.YthdjicolicokcaaGreatDoor.Ev
namespace Go.Proofs.YthdjicolicokcaaGreatDoor.Ev
open Go
theorem HR.setO {ρ : Nat → Nm} {nx : Nat} {H : Nat → Option AO} {w : World} (h : HR ρ nx H w) {n : Nat} {a a' : AO} {o o' : Obj} (hn : H n = some a) (ho : w.heap[(ρ n).b]? = some o) (hc : ∀ c e fr, o ≠ .cells c e fr) (ha : OR ρ nx (ρ n) a' (some o')) (P : Program) :
    ∃ w', (setObj (ρ n).b o').run P w = .ok () w' ∧ Step ρ nx H w ρ nx (updH H n (some a')) w' := by
  have hnx := (h.obj n _ hn).1
  have hlt := h.old hn
  refine ⟨{ w with heap := w.heap.setIfInBounds (ρ n).b o' }, ?_, ?_⟩
  · show Sem.run P (.setObj _ _ (.pure ())) w = _
    unfold Sem.run
    rw [ho]
    cases o <;> first | rfl | exact absurd rfl (hc _ _ _)
  · have hat : (w.heap.setIfInBounds (ρ n).b o')[(ρ n).b]? = some o' := Array.getElem?_setIfInBounds_self_of_lt hlt
    have hne : ∀ k, k ≠ (ρ n).b → (w.heap.setIfInBounds (ρ n).b o')[k]? = w.heap[k]? := fun k hk => Array.getElem?_setIfInBounds_ne (Ne.symm hk)
    have back : ∀ {m q}, updH H n (some a') m = some q → ∃ o2, H m = some o2 := fun {m q} hm => by
      rcases updH_get hm with ⟨rfl, _⟩ | ⟨_, hm⟩
      · exact ⟨_, hn⟩
      · exact ⟨_, hm⟩
    refine ⟨Ext.refl _ _, ⟨fun m q hm2 => ?_, fun m m' o1 o2 hm1 hm2 he => ?_⟩, ⟨rfl, rfl, rfl, by simp, fun j _ hj => hne j (fun e => hj n _ hn e.symm)⟩, fun m q hm2 => ?_⟩
    · rcases updH_get hm2 with ⟨rfl, e0⟩ | ⟨hne2, hm2⟩
      · obtain rfl := Option.some.inj e0
        refine ⟨hnx, ?_⟩
        show OR _ _ _ _ (w.heap.setIfInBounds (ρ m).b o')[(ρ m).b]?
        rw [hat]
        exact ha
      · have h5 := h.obj m _ hm2
        refine ⟨h5.1, ?_⟩
        show OR _ _ _ _ (w.heap.setIfInBounds (ρ n).b o')[(ρ m).b]?
        rw [hne _ (fun e => hne2 (h.inj m n _ _ hm2 hn e))]
        exact h5.2
    · obtain ⟨p1, hp1⟩ := back hm1
      obtain ⟨p2, hp2⟩ := back hm2
      exact h.inj _ _ _ _ hp1 hp2 he
    · rcases updH_get hm2 with ⟨rfl, _⟩ | ⟨_, hm2⟩
      · exact .inr ⟨m, _, hn, rfl⟩
      · exact .inr ⟨m, _, hm2, rfl⟩
section
variable {P : Program} {o : Oper} {f : T Value} {s s' : St} {v : Value}
theorem rangeStr_ok {t : TypeId} {x : Operand} {b : ByteArray} (ho : o.op = .range t x) (hu : P.underlying t = some .string) (hx : evO f x = some (.string b)) : ValOk P o f s (.pointer (some ⟨s.nx, 0, none⟩)) (s.new (.iter b 0)) := by
  refine valOk_of (sem := fun ev => Instr.range t (ev x)) (fun ev => by unfold execOp; rw [ho]) (fun ρ w a hr hf => ?_)
  have hp := evO_sound hf hx
  obtain ⟨u, hu2⟩ : ∃ u, a.eval x = u := ⟨_, rfl⟩
  rw [hu2] at hp
  cases hp
  refine ⟨_, _, .pointer (some ⟨w.heap.size, 0, none⟩), ?_, (hr.new (.stringIter b 0) (.iter b 0) ⟨rfl, rfl⟩).less get_updH, ptr_new _ _ _⟩
  simp only [hu2, Instr.range, Sem.run_bind, run_und hu, Result.andThen_ok, Sem.run_pure]
  rfl
theorem rangeMap_ok {t k e : TypeId} {x : Operand} {n clock : Nat} {es : List MapEntry} (ho : o.op = .range t x) (hu : P.underlying t = some (.map k e)) (hx : evO f x = some (.map (some n))) (hn : s.h.get n = some (.map es clock)) : ValOk P o f s (.pointer (some ⟨s.nx, 0, none⟩)) (s.new (.mapIter n clock [] clock)) := by
  refine valOk_of (sem := fun ev => Instr.range t (ev x)) (fun ev => by unfold execOp; rw [ho]) (fun ρ w a hr hf => ?_)
  have hp := evO_sound hf hx
  obtain ⟨u, hu2⟩ : ∃ u, a.eval x = u := ⟨_, rfl⟩
  rw [hu2] at hp
  cases hp
  rename_i hlt
  obtain ⟨_, es', h1, h2⟩ := hr.obj n _ hn
  have hx2 := upd_ext ρ s.nx ⟨w.heap.size, 0, 0⟩
  refine ⟨_, _, .pointer (some ⟨w.heap.size, 0, none⟩), ?_, (hr.new (.mapIter (some (ρ n).b) clock #[] clock) (.mapIter n clock [] clock) ⟨Nat.lt_succ_of_lt hlt, rfl, by rw [hx2.2 n hlt]⟩).less get_updH, ptr_new _ _ _⟩
  simp only [hu2, Instr.range, Sem.run_bind, run_und hu, Result.andThen_ok, run_getObj P _ h1 (fun _ _ _ h => by cases h), Sem.run_pure]
  rfl
theorem next_run {it : Operand} {b : Bool} (ho : o.op = .next it b) (ev : Operand → Value) : execOp ev o = (do pure (.value (← Instr.next (ev it) b o.type))) := by unfold execOp; rw [ho]
theorem tup1 {ρ : Nat → Nm} {nx : Nat} {a c : Value} (h1 : VR ρ nx a c) : VR ρ nx (.tuple #[a]) (.tuple #[c]) := .tuple _ _ rfl (fun i x y hx hy => by
  match i with
  | 0 =>
    simp at hx hy
    subst hx hy
    exact h1
  | i + 1 => simp at hx)
theorem tup3 {ρ : Nat → Nm} {nx : Nat} {a b c a' b' c' : Value} (h1 : VR ρ nx a a') (h2 : VR ρ nx b b') (h3 : VR ρ nx c c') : VR ρ nx (.tuple #[a, b, c]) (.tuple #[a', b', c']) := .tuple _ _ rfl (fun i x y hx hy => by
  match i with
  | 0 =>
    simp at hx hy
    subst hx hy
    exact h1
  | 1 =>
    simp at hx hy
    subst hx hy
    exact h2
  | 2 =>
    simp at hx hy
    subst hx hy
    exact h3
  | i + 3 => simp at hx)
theorem it_eval {it : Operand} {n : Nat} {ρ : Nat → Nm} {nx : Nat} {a : Act} (hf : FR ρ nx f a) (hx : evO f it = some (.pointer (some ⟨n, 0, none⟩))) (h0 : (ρ n).s = 0) : a.eval it = .pointer (some ⟨(ρ n).b, 0, none⟩) := by
  have hp := evO_sound hf hx
  obtain ⟨u, hu2⟩ : ∃ u, a.eval it = u := ⟨_, rfl⟩
  rw [hu2] at hp ⊢
  cases hp
  unfold Nm.at
  rw [h0]
noncomputable def nextS (b : ByteArray) (pos : Nat) : Value × Nat := match Nat.ble (pos + 1) b.size with
  | true => (.tuple #[.bool true, .int .i64 pos, .int .i32 (Utf8.decode b pos).1], pos + (Utf8.decode b pos).2)
  | false => (.tuple #[.bool false], pos)
theorem nextStr_ok {it : Operand} {n pos : Nat} {b : ByteArray} (ho : o.op = .next it true) (hx : evO f it = some (.pointer (some ⟨n, 0, none⟩))) (hn : s.h.get n = some (.iter b pos)) : ValOk P o f s (nextS b pos).1 ⟨s.h.set (.iter b (nextS b pos).2) n, s.nx⟩ := by
  refine valOk_of (sem := fun ev => Instr.next (ev it) true o.type) (fun ev => next_run ho ev) (fun ρ w a hr hf => ?_)
  obtain ⟨_, h0, h1⟩ := hr.obj n _ hn
  have he := it_eval hf hx h0
  unfold nextS
  rcases hq : Nat.ble (pos + 1) b.size with _ | _
  · have hlt : ¬ pos < b.size := fun h => by
      have := Nat.ble_eq_true_of_le h
      rw [hq] at this
      cases this
    refine ⟨ρ, w, .tuple #[.bool false], ?_, (Step.refl hr).less (fun m q hm => ?_), tup1 (.bool _)⟩
    · simp only [he, Instr.next, Sem.run_bind, run_getObj P _ h1 (fun _ _ _ h => by cases h), Result.andThen_ok, if_neg hlt, Sem.run_pure]
    · rcases updH_get (get_updH m q hm) with ⟨rfl, e⟩ | ⟨_, e⟩
      · rw [hn]
        exact e
      · exact e
  · have hlt : pos < b.size := Nat.le_of_ble_eq_true hq
    obtain ⟨w', hw, st⟩ := hr.setO (a' := .iter b (pos + (Utf8.decode b pos).2)) (o' := .stringIter b (pos + (Utf8.decode b pos).2)) hn h1 (fun _ _ _ h => by cases h) ⟨h0, rfl⟩ P
    refine ⟨ρ, w', .tuple #[.bool true, .int .i64 pos, .int .i32 (Utf8.decode b pos).1], ?_, st.less get_updH, tup3 (.bool _) (.int _ _) (.int _ _)⟩
    simp only [he, Instr.next, Sem.run_bind, run_getObj P _ h1 (fun _ _ _ h => by cases h), Result.andThen_ok, if_pos hlt, hw, Sem.run_pure]
    rfl
end
end Go.Proofs.YthdjicolicokcaaGreatDoor.Ev
namespace Go.Proofs.YthdjicolicokcaaGreatDoor.Ev
open Go
theorem MR.none {ρ : Nat → Nm} {nx : Nat} {m : Array MapEntry} (h : MR ρ nx [] m.toList) : m = #[] := by
  cases m with
  | mk l =>
    cases h
    rfl
theorem MR.single {ρ : Nat → Nm} {nx : Nat} {e : MapEntry} {m : Array MapEntry} (h : MR ρ nx [e] m.toList) : ∃ u, m = #[⟨e.key, u, e.born⟩] ∧ flat e.key = true ∧ VR ρ nx e.val u := by
  cases m with
  | mk l =>
    generalize hl : (Array.mk l).toList = l' at h
    cases h with
    | cons k v u b _ m2 hk hv hr =>
      cases hr
      simp only at hl
      subst hl
      exact ⟨u, rfl, hk, hv⟩
section
variable {P : Program} {o : Oper} {f : T Value} {s s' : St} {v : Value}
theorem nextOver_ok {it : Operand} {n q since last clock : Nat} {seen : List Nat} (ho : o.op = .next it false) (hx : evO f it = some (.pointer (some ⟨n, 0, none⟩))) (hn : s.h.get n = some (.mapIter q since seen last)) (hm : s.h.get q = some (.map [] clock)) : QOk P o f s (.tuple #[.bool false]) := by
  refine qOk_of (sem := fun ev => Instr.next (ev it) false o.type) (fun ev => next_run ho ev) (fun ρ w a hr hf => ?_)
  obtain ⟨_, _, h0, h1⟩ := hr.obj n _ hn
  obtain ⟨_, es', g1, g2⟩ := hr.obj q _ hm
  obtain rfl := g2.none
  have he := it_eval hf hx h0
  refine ⟨.tuple #[.bool false], ?_, tup1 (.bool _)⟩
  have hf0 : ∀ g : MapEntry → Bool, (#[] : Array MapEntry).filter g = #[] := fun g => by simp
  simp only [he, Instr.next, Sem.run_bind, run_getObj P _ h1 (fun _ _ _ h => by cases h), run_getObj P _ g1 (fun _ _ _ h => by cases h), Result.andThen_ok, show (#[] : Array MapEntry).isEmpty = true from rfl, Bool.not_true, Bool.and_false, Bool.false_and, Bool.false_eq_true, if_false, hf0]
  have hc : ((if True then #[Option.none] else #[]) ++ Array.map some ((#[] : Array MapEntry) ++ #[])) = #[Option.none] := by simp
  rw [hc]
  rfl
theorem nextOne_ok {it : Operand} {n q since last clock : Nat} {e : MapEntry} (ho : o.op = .next it false) (hx : evO f it = some (.pointer (some ⟨n, 0, none⟩))) (hn : s.h.get n = some (.mapIter q since [] last)) (hm : s.h.get q = some (.map [e] clock)) (hb : e.born < since) : ValOk P o f s (.tuple #[.bool true, e.key, e.val]) ⟨s.h.set (.mapIter q since [e.born] clock) n, s.nx⟩ := by
  refine valOk_of (sem := fun ev => Instr.next (ev it) false o.type) (fun ev => next_run ho ev) (fun ρ w a hr hf => ?_)
  obtain ⟨_, hq, h0, h1⟩ := hr.obj n _ hn
  obtain ⟨_, es', g1, g2⟩ := hr.obj q _ hm
  obtain ⟨u, rfl, hk, hv⟩ := g2.single
  have he := it_eval hf hx h0
  obtain ⟨w', hw, st⟩ := hr.setO (a' := .mapIter q since [e.born] clock) (o' := .mapIter (some (ρ q).b) since #[e.born] clock) hn h1 (fun _ _ _ h => by cases h) ⟨hq, h0, rfl⟩ P
  refine ⟨ρ, w', .tuple #[.bool true, e.key, u], ?_, st.less get_updH, tup3 (.bool _) (flat_vr hk) hv⟩
  have hfil : (#[(⟨e.key, u, e.born⟩ : MapEntry)]).filter (fun e => !(#[] : Array Nat).contains e.born) = #[⟨e.key, u, e.born⟩] := by simp
  have hold : (#[(⟨e.key, u, e.born⟩ : MapEntry)]).filter (fun e => decide (e.born < since)) = #[⟨e.key, u, e.born⟩] := by simp [hb]
  have hnew : (#[(⟨e.key, u, e.born⟩ : MapEntry)]).filter (fun e => decide (e.born ≥ since)) = #[] := by
    have : ¬ since ≤ e.born := by omega
    simp [this]
  simp only [he, Instr.next, Sem.run_bind, run_getObj P _ h1 (fun _ _ _ h => by cases h), run_getObj P _ g1 (fun _ _ _ h => by cases h), Result.andThen_ok, show ([] : List Nat).toArray.isEmpty = true from rfl, Bool.not_true, Bool.false_and, Bool.false_eq_true, if_false, hfil, hold, hnew]
  have hc : ((if (#[(⟨e.key, u, e.born⟩ : MapEntry)]).isEmpty = true then #[Option.none] else #[]) ++ Array.map some (#[(⟨e.key, u, e.born⟩ : MapEntry)] ++ #[])) = #[some ⟨e.key, u, e.born⟩] := by simp
  rw [hc]
  have hch : (choose (.mapNext 1)).run P w = .ok 0 w := rfl
  have hw' : (setObj (ρ n).b (.mapIter (some (ρ q).b) since (([] : List Nat).toArray.push e.born) clock)).run P w = .ok () w' := hw
  show (Sem.run P (choose (.mapNext 1)) w).andThen _ = _
  rw [hch]
  simp only [Result.andThen_ok]
  show Sem.run P (do setObj (ρ n).b (.mapIter (some (ρ q).b) since (([] : List Nat).toArray.push e.born) clock); pure (Value.tuple #[.bool true, e.key, u]) : Sem Value) w = _
  simp only [Sem.run_bind, hw', Result.andThen_ok, Sem.run_pure]
theorem nextDone_ok {it : Operand} {n q since last clock : Nat} {e : MapEntry} (ho : o.op = .next it false) (hx : evO f it = some (.pointer (some ⟨n, 0, none⟩))) (hn : s.h.get n = some (.mapIter q since [e.born] last)) (hm : s.h.get q = some (.map [e] clock)) (hb : e.born < last) : QOk P o f s (.tuple #[.bool false]) := by
  refine qOk_of (sem := fun ev => Instr.next (ev it) false o.type) (fun ev => next_run ho ev) (fun ρ w a hr hf => ?_)
  obtain ⟨_, hq, h0, h1⟩ := hr.obj n _ hn
  obtain ⟨_, es', g1, g2⟩ := hr.obj q _ hm
  obtain ⟨u, rfl, hk, hv⟩ := g2.single
  have he := it_eval hf hx h0
  refine ⟨.tuple #[.bool false], ?_, tup1 (.bool _)⟩
  have hfil : (#[(⟨e.key, u, e.born⟩ : MapEntry)]).filter (fun x => !([e.born] : List Nat).toArray.contains x.born) = #[] := by simp
  have hall : (#[(⟨e.key, u, e.born⟩ : MapEntry)]).all (fun x => decide (x.born ≥ last)) = false := by
    have : ¬ last ≤ e.born := by omega
    simp [this]
  simp only [he, Instr.next, Sem.run_bind, run_getObj P _ h1 (fun _ _ _ h => by cases h), run_getObj P _ g1 (fun _ _ _ h => by cases h), Result.andThen_ok, hall, Bool.and_false, Bool.false_eq_true, if_false, hfil]
  have hf0 : ∀ g : MapEntry → Bool, (#[] : Array MapEntry).filter g = #[] := fun g => by simp
  simp only [hf0]
  have hc : ((if (#[] : Array MapEntry).isEmpty = true then #[Option.none] else #[]) ++ Array.map some ((#[] : Array MapEntry) ++ #[])) = #[Option.none] := by simp
  rw [hc]
  rfl
theorem entry_ok {it : Operand} {n q since last : Nat} {e : MapEntry} (ho : o.op = .entry it) (hx : evO f it = some (.pointer (some ⟨n, 0, none⟩))) (hn : s.h.get n = some (.mapIter q since [e.born] last)) (hm : s.h.get q = some (.map [e] last)) : QOk P o f s (.tuple #[e.key, e.val]) := by
  refine qOk_of (sem := fun ev => Instr.entry (ev it)) (fun ev => by unfold execOp; rw [ho]) (fun ρ w a hr hf => ?_)
  obtain ⟨_, hq, h0, h1⟩ := hr.obj n _ hn
  obtain ⟨_, es', g1, g2⟩ := hr.obj q _ hm
  obtain ⟨u, rfl, hk, hv⟩ := g2.single
  have he := it_eval hf hx h0
  refine ⟨.tuple #[e.key, u], ?_, pair_vr (flat_vr hk) hv⟩
  have hfi : (#[(⟨e.key, u, e.born⟩ : MapEntry)]).find? (fun x => x.born == e.born) = some ⟨e.key, u, e.born⟩ := by simp
  have hb : ([e.born] : List Nat).toArray.back? = some e.born := by simp
  simp only [he, Instr.entry, Sem.run_bind, run_getObj P _ h1 (fun _ _ _ h => by cases h), run_getObj P _ g1 (fun _ _ _ h => by cases h), Result.andThen_ok, hb, bne_self_eq_false, Bool.false_eq_true, if_false, hfi, Sem.run_pure]
end
end Go.Proofs.YthdjicolicokcaaGreatDoor.Ev
namespace Go.Proofs.YthdjicolicokcaaGreatDoor.Ev
open Go
section
variable {P : Program} {o : Oper} {f : T Value} {s s' : St} {v : Value}
def isIfaceD : TypeDesc → Bool
  | .interface _ => true
  | _ => false
theorem assert_run {x : Operand} {xt t : TypeId} {ok : Bool} (ho : o.op = .typeAssert x xt t ok) (ev : Operand → Value) : execOp ev o = (do pure (.value (← Instr.typeAssert (ev x) xt t ok))) := by unfold execOp; rw [ho]
theorem assert_ok {x : Operand} {xt t : TypeId} {d : TypeDesc} {ok : Bool} (ho : o.op = .typeAssert x xt t ok) (hu : P.underlying t = some d) (hd : isIfaceD d = false) (hx : evO f x = some (.iface t v)) : QOk P o f s (match ok with | true => .tuple #[v, .bool true] | false => v) := by
  refine qOk_of (sem := fun ev => Instr.typeAssert (ev x) xt t ok) (fun ev => assert_run ho ev) (fun ρ w a hr hf => ?_)
  have hp := evO_sound hf hx
  obtain ⟨u, hu2⟩ : ∃ u, a.eval x = u := ⟨_, rfl⟩
  rw [hu2] at hp
  cases hp with
  | iface _ _ z hz =>
    refine ⟨match ok with | true => .tuple #[z, .bool true] | false => z, ?_, ?_⟩
    · simp only [hu2, Instr.typeAssert, Sem.run_bind, run_und hu, Result.andThen_ok]
      cases d <;> first
        | (cases hd; done)
        | (simp only [if_true]
           cases ok <;> rfl)
    · cases ok
      · exact hz
      · exact pair_vr hz (.bool _)
theorem indexFx_ok {ty e : TypeId} {x y : Operand} {n k l c : Nat} {kk : IntKind} {i : Int} {inf : TypeInfo} (ho : o.op = .indexAddr ty x y) (hu : P.underlying ty = some (.slice e)) (hi : P.info? e = some inf) (hx : evO f x = some (.slice (some ⟨n, k, some 0⟩) l c)) (hy : evO f y = some (.int kk i)) (h0 : 0 ≤ i) (hl : i < l) :
    QOk P o f s (.pointer (some ⟨n, k + i.toNat * inf.size, none⟩)) := by
  refine qOk_of (sem := fun ev => Instr.indexAt ty (ev x) (ev y)) (fun ev => by unfold execOp; rw [ho]) (fun ρ w a hr hf => ?_)
  have hp := evO_sound hf hx
  have hq := evO_sound hf hy
  obtain ⟨u, hu2⟩ : ∃ u, a.eval x = u := ⟨_, rfl⟩
  obtain ⟨z, hz2⟩ : ∃ z, a.eval y = z := ⟨_, rfl⟩
  rw [hu2] at hp
  rw [hz2] at hq
  cases hp
  cases hq
  rename_i hn
  refine ⟨_, ?_, .ptr n (k + i.toNat * inf.size) hn⟩
  rw [hu2, hz2]
  simp only [Instr.indexAt, Sem.run_bind, asIntOf_run, run_und hu, Result.andThen_ok, Sem.run_pure]
  rw [if_pos ⟨h0, hl⟩]
  simp only [Sem.run_bind, run_siz hi, Sem.run_pure, Result.andThen_ok, at_add]
theorem clear_run {c : Call} {x : Operand} (ho : o.op = .call c) (hc : c.callee = .builtin .clear) (ha : c.args = #[x]) (ev : Operand → Value) : execOp ev o = (do pure (.value (← Builtin.clear_ c.argTypes o.type #[ev x]))) := by
  rw [builtin_run ho hc ev, ha, map1 ev]
  rfl
theorem clear_ok {c : Call} {x : Operand} {t elem : TypeId} {inf : TypeInfo} {z : Value} {n k l cp m e2 sz fz : Nat} {tr : Go.Proofs.YthdjicolicokcaaGreatDoor.Ev.T Value} (ho : o.op = .call c) (hc : c.callee = .builtin .clear) (ha : c.args = #[x]) (ht : c.argTypes[0]? = some t) (hu : P.underlying t = some (.slice elem)) (hi : P.info? elem = some inf) (hz : inf.zero = some z) (hx : evO f x = some (.slice (some ⟨n, k, none⟩) (l + 1) cp)) (hn : s.h.get n = some (.cells tr m e2 sz fz))
    (hfl : (Builtin.zeroCells z.cells (l + 1)).toList.all flat = true) (h1 : (Builtin.zeroCells z.cells (l + 1)).toList.all (·.oneCell') = true) (hfz : fz ≤ k) (hk : k + (Builtin.zeroCells z.cells (l + 1)).toList.length ≤ m) :
    ValOk P o f s (.tuple #[]) ⟨s.h.set (.cells (writeF (Builtin.zeroCells z.cells (l + 1)).toList tr k) m e2 sz fz) n, s.nx⟩ := by
  refine valOk_of (sem := fun ev => Builtin.clear_ c.argTypes o.type #[ev x]) (fun ev => clear_run ho hc ha ev) (fun ρ w a hr hf => ?_)
  have hp := evO_sound hf hx
  obtain ⟨u, hu2⟩ : ∃ u, a.eval x = u := ⟨_, rfl⟩
  rw [hu2] at hp
  cases hp
  obtain ⟨w', hw, st⟩ := storeCells_sim P (o := k) (Builtin.zeroCells z.cells (l + 1)).toList (Builtin.zeroCells z.cells (l + 1)).toList 0 tr s.h.get w hr hn rfl (fun j p q hp hq => by
    obtain rfl := Option.some.inj (hp.symm.trans hq)
    exact flat_vr (List.all_eq_true.1 hfl p (List.mem_of_getElem? hp))) (fun p hp => List.all_eq_true.1 h1 p hp) (by omega) (by omega)
  refine ⟨ρ, w', .tuple #[], ?_, st.less get_updH, .tuple _ _ rfl (fun i x y hx => by simp at hx)⟩
  have e0 : (#[Value.slice (some ((ρ n).at k)) (l + 1) (cp + (ρ n).e)] : Array Value)[0]? = some (.slice (some ((ρ n).at k)) (l + 1) (cp + (ρ n).e)) := rfl
  simp only [hu2, Builtin.clear_, ht, e0, Sem.run_bind, run_und hu, Result.andThen_ok, run_zero hi hz, hw, Sem.run_pure]
end
end Go.Proofs.YthdjicolicokcaaGreatDoor.Ev
