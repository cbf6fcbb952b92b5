/-
  An evaluator for closed runs: the operations (7: append's three cases).
-/
import Derived.Test.YtjfcjpbolokfcaaGreatDoorEv10
namespace Go.Proofs.YtjfcjpbolokfcaaGreatDoor.Ev
open Go

theorem newAt {ρ : Nat → Nm} {nx : Nat} {H : Nat → Option AO} {w : World} (h : HR ρ nx H w) (o : Obj) (a : AO) (m : Nm) (hm : m.b = w.heap.size) (ho : OR (upd ρ nx m) (nx + 1) m a (some o)) (d : Nat) :
    Step ρ nx H w (upd ρ nx m) (nx + 1) (updH H nx (some a)) { w with drawn := d, heap := w.heap.push o } := by
  have hx := upd_ext ρ nx m
  refine ⟨hx, ⟨fun n o' hn => ?_, fun n k o1 o2 hn hk he => ?_⟩, ⟨rfl, rfl, rfl, by simp, fun k hk _ => push_old _ _ hk⟩, fun n o' hn => ?_⟩
  · rcases updH_get hn with ⟨rfl, e⟩ | ⟨hne, hn⟩
    · obtain rfl := Option.some.inj e
      refine ⟨Nat.lt_succ_self _, ?_⟩
      rw [upd_at]
      show OR _ _ _ _ (w.heap.push o)[m.b]?
      rw [hm]
      simpa using ho
    · have h1 := h.obj n o' hn
      refine ⟨Nat.lt_succ_of_lt h1.1, ?_⟩
      rw [hx.2 n h1.1]
      have : (w.heap.push o)[(ρ n).b]? = w.heap[(ρ n).b]? := push_old _ _ (h.old hn)
      show OR _ _ _ _ ((w.heap.push o)[(ρ n).b]?)
      rw [this]
      exact h1.2.mono hx
  · rcases updH_get hn with ⟨h1, _⟩ | ⟨hne, hn1⟩ <;> rcases updH_get hk with ⟨h2, _⟩ | ⟨hke, hk1⟩
    · exact h1.trans h2.symm
    · rw [h1, upd_at, hx.2 k (h.obj k _ hk1).1] at he
      have := h.old hk1
      omega
    · rw [h2, upd_at, hx.2 n (h.obj n _ hn1).1] at he
      have := h.old hn1
      omega
    · rw [hx.2 n (h.obj n _ hn1).1, hx.2 k (h.obj k _ hk1).1] at he
      exact h.inj n k o1 o2 hn1 hk1 he
  · rcases updH_get hn with ⟨rfl, _⟩ | ⟨hne, hn⟩
    · exact .inl (by rw [upd_at, hm]; exact Nat.le_refl _)
    · exact .inr ⟨n, o', hn, by rw [hx.2 n (h.obj n _ hn).1]⟩
theorem sl_at {ρ : Nat → Nm} {nx l c b s e : Nat} : VR (upd ρ nx ⟨b, s, e⟩) (nx + 1) (.slice (some ⟨nx, 0, none⟩) l c) (.slice (some ⟨b, s, none⟩) l (c + e)) := by
  have h := VR.sl (ρ := upd ρ nx ⟨b, s, e⟩) nx 0 l c (Nat.lt_succ_self nx)
  rw [upd_at] at h
  exact h
section
variable {P : Program} {o : Oper} {f : T Value} {s s' : St} {v : Value}
theorem append_run {c : Call} {x y : Operand} (ho : o.op = .call c) (hc : c.callee = .builtin .append) (ha : c.args = #[x, y]) (ev : Operand → Value) : execOp ev o = (do pure (.value (← Builtin.append_ c.argTypes o.type #[ev x, ev y]))) := by
  have hm : (#[x, y] : Array Operand).map ev = #[ev x, ev y] := by simp
  have hres : resolve ev c o.type = pure { target := .builtin .append c.argTypes o.type (c.args.map fun | .const _ => true | _ => false), args := #[ev x, ev y] } := by
    unfold resolve
    rw [hc, ha, hm]
    rfl
  rw [call_run ev ho, hres]
  rfl
/-- Nothing is known of it but its type. -/
structure AppT (P : Program) (o : Oper) (c : Call) (x y : Operand) (elem : TypeId) (inf : TypeInfo) (z : Value) (d1 : TypeDesc) (t0 t1 : TypeId) : Prop where
  op : o.op = .call c
  callee : c.callee = .builtin .append
  args : c.args = #[x, y]
  a0 : c.argTypes[0]? = some t0
  a1 : c.argTypes[1]? = some t1
  u0 : P.underlying t0 = some (.slice elem)
  u1 : P.underlying t1 = some d1
  notInt : isIntD d1 = false
  info : P.info? elem = some inf
  zero : inf.zero = some z
  cells : z.cells.size = inf.size
  small : inf.bytes ≤ 2 ^ 20
variable {c : Call} {x y : Operand} {elem t0 t1 : TypeId} {inf : TypeInfo} {z u : Value} {d1 : TypeDesc}
theorem appendIn_ok (T : AppT P o c x y elem inf z d1 t0 t1) {n k l cp m e sz fz q : Nat} {t : Go.Proofs.YtjfcjpbolokfcaaGreatDoor.Ev.T Value} {vs : List Value} (hx : evO f x = some (.slice (some ⟨n, k, none⟩) l cp)) (hy : evO f y = some u) (hs : srcA s inf.size u = some (q, vs)) (hn : s.h.get n = some (.cells t m e sz fz)) (h1 : vs.all (·.oneCell') = true) (hq : l + q ≤ cp) (hz : fz ≤ k + l * inf.size) (hk : k + l * inf.size + q * inf.size ≤ m) :
    ValOk P o f s (.slice (some ⟨n, k, none⟩) (l + q) cp) ⟨s.h.set (.cells (writeF vs t (k + l * inf.size)) m e sz fz) n, s.nx⟩ := by
  refine valOk_of (sem := fun ev => Builtin.append_ c.argTypes o.type #[ev x, ev y]) (fun ev => append_run T.op T.callee T.args ev) (fun ρ w a hr hf => ?_)
  have hp := evO_sound hf hx
  have hv := evO_sound hf hy
  obtain ⟨b, hb⟩ : ∃ b, a.eval x = b := ⟨_, rfl⟩
  obtain ⟨g, hg⟩ : ∃ g, a.eval y = g := ⟨_, rfl⟩
  rw [hb] at hp
  rw [hg] at hv
  obtain ⟨r1, us, r2, r3, r4, r5⟩ := srcA_sim P hr hs hv
  cases hp
  rename_i hlt
  obtain ⟨w', hw, st⟩ := storeCells_sim P (o := k + l * inf.size) vs us 0 t s.h.get w hr hn r2.symm (fun j p q hp hq => r5.2 j p q (by simpa using hp) (by simpa using hq)) (fun p hp => List.all_eq_true.1 h1 p hp) (by omega) (by omega)
  refine ⟨ρ, w', _, ?_, st.less get_updH, .sl n k (l + q) cp hlt⟩
  simp only [hb, hg]
  refine append_in_run T.a0 T.a1 T.u0 T.u1 T.notInt T.info r1 r4 (by omega) (fun a ha => ?_) (fun h => by cases h)
  obtain rfl := Option.some.inj ha
  rw [at_add]
  exact hw
theorem world_drawn {ρ : Nat → Nm} {nx : Nat} {H : Nat → Option AO} {w : World} (h : HR ρ nx H w) (d : Nat) : HR ρ nx H { w with drawn := d } := ⟨fun n o hn => h.obj n o hn, fun n m o o' hn hm he => h.inj n m o o' hn hm he⟩
theorem appendNil_ok (T : AppT P o c x y elem inf z d1 t0 t1) {q : Nat} {vs : List Value} (hx : evO f x = some (.slice none 0 0)) (hy : evO f y = some u) (hs : srcA s inf.size u = some (q, vs)) (hq : 0 < q) (hq2 : q ≤ 2 ^ 20) :
    ValOk P o f s (.slice (some ⟨s.nx, 0, none⟩) q q) (s.new (.cells (ofL vs) (q * inf.size) elem inf.size 0)) := by
  refine valOk_of (sem := fun ev => Builtin.append_ c.argTypes o.type #[ev x, ev y]) (fun ev => append_run T.op T.callee T.args ev) (fun ρ w a hr hf => ?_)
  have hp := evO_sound hf hx
  have hv := evO_sound hf hy
  obtain ⟨b, hb⟩ : ∃ b, a.eval x = b := ⟨_, rfl⟩
  obtain ⟨g, hg⟩ : ∃ g, a.eval y = g := ⟨_, rfl⟩
  rw [hb] at hp
  rw [hg] at hv
  obtain ⟨r1, _⟩ := srcA_sim P hr hs hv
  obtain ⟨_, us, r2, r3, r4, r5⟩ := srcA_sim P (world_drawn hr (w.drawn + 1)) hs hv
  cases hp
  obtain ⟨nc, rest, k1, k2, k3⟩ := append_new_run (P := P) (ty := o.type) (base := none) (l := 0) (c := 0) (os := []) T.a0 T.a1 T.u0 T.u1 T.notInt T.info T.zero r1 r4 rfl (by omega) (by omega) T.small
  rw [T.cells, Nat.zero_add] at k2
  have hO : OR (upd ρ s.nx ⟨w.heap.size, 0, nc - q⟩) (s.nx + 1) ⟨w.heap.size, 0, nc - q⟩ (.cells (ofL vs) (q * inf.size) elem inf.size 0) (some (.cells (([] : List Value).toArray ++ us.toArray ++ rest) elem)) := by
    refine ⟨_, (0, 0), rfl, ?_, fun i v hi hg2 => ?_, fun j _ _ => by simp⟩
    · simp only [Array.size_append, List.size_toArray, List.length_nil, k2, r2, r3]
      omega
    · obtain ⟨y2, hy2, hr2⟩ := r5.at (i := i) (x := v) (by simpa using ofL_get hg2)
      refine ⟨y2, ?_, hr2.mono (upd_ext _ _ _)⟩
      have hlt := arr_lt hy2
      simp only [Nat.zero_add]
      rw [Array.getElem?_append_left (by simpa using hlt)]
      simpa using hy2
  have st := newAt hr _ _ ⟨w.heap.size, 0, nc - q⟩ rfl hO (w.drawn + 1)
  have hsl := sl_at (ρ := ρ) (nx := s.nx) (l := q) (c := q) (b := w.heap.size) (s := 0) (e := nc - q)
  rw [show q + (nc - q) = nc by omega] at hsl
  refine ⟨_, _, .slice (some ⟨w.heap.size, 0, none⟩) (0 + q) nc, ?_, st.less get_updH, by rw [Nat.zero_add]; exact hsl⟩
  simp only [hb, hg]
  exact k3
/-- The room that is known of is at its end: whatever the tape tells, the row has a name of its own from now on, and the old name is dead. -/
theorem appendGrow_ok (T : AppT P o c x y elem inf z d1 t0 t1) {n k l cp m fz q : Nat} {t nt : Go.Proofs.YtjfcjpbolokfcaaGreatDoor.Ev.T Value} {vs : List Value} (hx : evO f x = some (.slice (some ⟨n, k, none⟩) l cp) ∨ (l = 0 ∧ cp = 0 ∧ 0 < q ∧ ∃ j, evO f x = some (.slice (some ⟨n, k, some (j + 1)⟩) 0 0))) (hy : evO f y = some u) (hs : srcA s inf.size u = some (q, vs)) (hn : s.h.get n = some (.cells t m elem inf.size fz)) (h1 : vs.all (·.oneCell') = true) (hl : l ≤ cp) (hq2 : l + q ≤ 2 ^ 20) (hz : fz ≤ k + l * inf.size) (hk : m = k + cp * inf.size)
    (hnt : ∀ i v, i < (l + q) * inf.size → nt.get i = some v → (i < l * inf.size ∧ t.get (k + i) = some v) ∨ (l * inf.size ≤ i ∧ vs[i - l * inf.size]? = some v)) :
    ValOk P o f s (.slice (some ⟨s.nx, 0, none⟩) (l + q) (l + q)) ⟨(s.h.del n).set (.cells nt ((l + q) * inf.size) elem inf.size (fz - k)) s.nx, s.nx + 1⟩ := by
  refine valOk_of (sem := fun ev => Builtin.append_ c.argTypes o.type #[ev x, ev y]) (fun ev => append_run T.op T.callee T.args ev) (fun ρ w a hr hf => ?_)
  have hv := evO_sound hf hy
  obtain ⟨g, hg⟩ : ∃ g, a.eval y = g := ⟨_, rfl⟩
  rw [hg] at hv
  obtain ⟨bb, hb, hbb⟩ : ∃ bb, a.eval x = .slice (some bb) l (cp + (ρ n).e) ∧ (bb = (ρ n).at k ∨ (l = 0 ∧ cp = 0 ∧ 0 < q ∧ (ρ n).e = 0)) := by
    obtain ⟨b, hb⟩ : ∃ b, a.eval x = b := ⟨_, rfl⟩
    rcases hx with hx | ⟨rfl, rfl, hq0, j, hx⟩
    · have hp := evO_sound hf hx
      rw [hb] at hp
      cases hp
      exact ⟨_, hb, .inl rfl⟩
    · have hp := evO_sound hf hx
      rw [hb] at hp
      cases hp
      refine ⟨_, by rw [hb, Nat.zero_add], ?_⟩
      by_cases he : (ρ n).e = 0
      · exact .inr ⟨rfl, rfl, hq0, he⟩
      · rw [if_neg he]
        exact .inl rfl
  have hle : l * inf.size ≤ cp * inf.size := Nat.mul_le_mul_right _ hl
  have hadd : (l + q) * inf.size = l * inf.size + q * inf.size := Nat.add_mul _ _ _
  by_cases hin : l + q ≤ cp + (ρ n).e
  · -- in place
    obtain rfl : bb = (ρ n).at k := by
      rcases hbb with h | ⟨h2, h3, h4, h5⟩
      · exact h
      · omega
    obtain ⟨r1, us, r2, r3, r4, r5⟩ := srcA_sim P hr hs hv
    obtain ⟨hnx, cs, fr, g1, g2, g3, g4⟩ := hr.obj n _ hn
    have hroom : (l + q) * inf.size + (cp + (ρ n).e - (l + q)) * inf.size = cp * inf.size + (ρ n).e * inf.size := by
      rw [← Nat.add_mul, ← Nat.add_mul]
      congr 1
      omega
    have hone : ∀ u ∈ us, u.oneCell' = true := fun u hu => by
      obtain ⟨i, hi⟩ := List.getElem?_of_mem hu
      obtain ⟨v, hv⟩ := arr_get (a := vs.toArray) (i := i) (by have := arr_lt (a := us.toArray) (i := i) (x := u) (by simpa using hi); have := r5.1; omega)
      rw [(r5.2 i v u hv (by simpa using hi)).one]
      exact List.all_eq_true.1 h1 v (List.mem_of_getElem? (by simpa using hv))
    obtain ⟨w', cs', p1, p2, p3, p4, p5, p6, p7, p8, p9, p10⟩ := storeCells_at P (m := ρ n) (o := k + l * inf.size) rfl us 0 w cs g1 hone (by omega) (fun j h2 h3 => g4 j (by omega) (by omega))
    have hO : OR (upd ρ s.nx ⟨(ρ n).b, (ρ n).s + k, cp + (ρ n).e - (l + q)⟩) (s.nx + 1) ⟨(ρ n).b, (ρ n).s + k, cp + (ρ n).e - (l + q)⟩ (.cells nt ((l + q) * inf.size) elem inf.size (fz - k)) w'.heap[(ρ n).b]? := by
      refine ⟨cs', fr, p2, by simp only; omega, fun i v hi hg2 => ?_, fun j h2 h3 => ?_⟩
      · simp only
        rcases hnt i v hi hg2 with ⟨h2, h3⟩ | ⟨h2, h3⟩
        · obtain ⟨a2, ha2, hr2⟩ := g3 (k + i) v (by omega) h3
          refine ⟨a2, ?_, hr2.mono (upd_ext _ _ _)⟩
          rw [p4 _ (.inl (by omega)), Nat.add_assoc]
          exact ha2
        · obtain ⟨y2, hy2, hr2⟩ := r5.at (i := i - l * inf.size) (x := v) (by simpa using h3)
          refine ⟨y2, ?_, hr2.mono (upd_ext _ _ _)⟩
          have := p5 (i - l * inf.size) y2 (by simpa using hy2)
          rw [show (ρ n).s + (k + l * inf.size + 0) + (i - l * inf.size) = (ρ n).s + k + i by omega] at this
          exact this
      · simp only at h2 h3
        exact g4 j (by omega) (by omega)
    have st := hr.moved (m := ⟨(ρ n).b, (ρ n).s + k, cp + (ρ n).e - (l + q)⟩) hn rfl p8 p9 p10 p6 p7 hO
    have hsl := sl_at (ρ := ρ) (nx := s.nx) (l := l + q) (c := l + q) (b := (ρ n).b) (s := (ρ n).s + k) (e := cp + (ρ n).e - (l + q))
    rw [show l + q + (cp + (ρ n).e - (l + q)) = cp + (ρ n).e by omega] at hsl
    refine ⟨_, w', .slice (some ((ρ n).at k)) (l + q) (cp + (ρ n).e), ?_, st.less del_updH, hsl⟩
    simp only [hb, hg]
    refine append_in_run T.a0 T.a1 T.u0 T.u1 T.notInt T.info r1 r4 hin (fun a ha => ?_) (fun h => by cases h)
    obtain rfl := Option.some.inj ha
    rw [at_add]
    exact p1
  · obtain ⟨r1, _⟩ := srcA_sim P hr hs hv
    have hr' := world_drawn hr (w.drawn + 1)
    obtain ⟨_, us, r2, r3, r4, r5⟩ := srcA_sim P hr' hs hv
    obtain ⟨os, q1, q2, q3⟩ := hr'.there hn (l * inf.size) k (by omega)
    have hold : (Builtin.firstCells inf.size l (.slice (some bb) l (cp + (ρ n).e))).run P { w with drawn := w.drawn + 1 } = .ok os.toArray { w with drawn := w.drawn + 1 } := by
      show (loadCells bb (l * inf.size)).run P _ = _
      rcases hbb with rfl | ⟨rfl, _⟩
      · rw [← q1]
        exact run_loadCells_list _ _ os q2
      · rw [Nat.zero_mul] at q1 ⊢
        rw [List.length_eq_zero_iff.1 q1]
        rfl
    obtain ⟨nc, rest, k1, k2, k3⟩ := append_new_run (P := P) (ty := o.type) T.a0 T.a1 T.u0 T.u1 T.notInt T.info T.zero r1 r4 hold (by omega) hq2 T.small
    rw [T.cells] at k2
    have hsz : (l + q) * inf.size + (nc - (l + q)) * inf.size = nc * inf.size := by
      rw [← Nat.add_mul]
      congr 1
      omega
    have hO : OR (upd ρ s.nx ⟨w.heap.size, 0, nc - (l + q)⟩) (s.nx + 1) ⟨w.heap.size, 0, nc - (l + q)⟩ (.cells nt ((l + q) * inf.size) elem inf.size (fz - k)) (some (.cells (os.toArray ++ us.toArray ++ rest) elem)) := by
      refine ⟨_, (0, 0), rfl, ?_, fun i v hi hg2 => ?_, fun j _ _ => by simp⟩
      · simp only [Array.size_append, List.size_toArray, k2, r2, r3, q1]
        omega
      · simp only [Nat.zero_add]
        rcases hnt i v hi hg2 with ⟨h2, h3⟩ | ⟨h2, h3⟩
        · obtain ⟨u2, hu2, hr2⟩ := q3 i v h2 h3
          refine ⟨u2, ?_, hr2.mono (upd_ext _ _ _)⟩
          rw [Array.getElem?_append_left (by simp; omega), Array.getElem?_append_left (by simp; omega)]
          simpa using hu2
        · obtain ⟨y2, hy2, hr2⟩ := r5.at (i := i - l * inf.size) (x := v) (by simpa using h3)
          have hlt2 := arr_lt hy2
          simp only [List.size_toArray] at hlt2
          refine ⟨y2, ?_, hr2.mono (upd_ext _ _ _)⟩
          rw [Array.getElem?_append_left (by simp; omega), Array.getElem?_append_right (by simp; omega)]
          simpa [q1] using hy2
    have st := newAt hr _ _ ⟨w.heap.size, 0, nc - (l + q)⟩ rfl hO (w.drawn + 1)
    have hsl := sl_at (ρ := ρ) (nx := s.nx) (l := l + q) (c := l + q) (b := w.heap.size) (s := 0) (e := nc - (l + q))
    rw [show l + q + (nc - (l + q)) = nc by omega] at hsl
    refine ⟨_, _, .slice (some ⟨w.heap.size, 0, none⟩) (l + q) nc, ?_, st.less (fun i o' ho => ?_), hsl⟩
    · simp only [hb, hg]
      exact k3
    · rcases updH_get (del_updH i o' ho) with ⟨e1, e2⟩ | ⟨e1, e2⟩
      · rw [e1, updH_at, e2]
      · rcases updH_get e2 with ⟨_, e3⟩ | ⟨_, e3⟩
        · cases e3
        · unfold updH
          rw [if_neg e1]
          exact e3
/-- Nothing is appended. -/
theorem appendZero_ok (T : AppT P o c x y elem inf z d1 t0 t1) {b : Option Addr} {l cp : Nat} (hx : evO f x = some (.slice b l cp)) (hy : evO f y = some u) (hs : srcA s inf.size u = some (0, [])) (hl : l ≤ cp) : QOk P o f s (.slice b l cp) := by
  refine qOk_of (sem := fun ev => Builtin.append_ c.argTypes o.type #[ev x, ev y]) (fun ev => append_run T.op T.callee T.args ev) (fun ρ w a hr hf => ?_)
  have hp := evO_sound hf hx
  have hv := evO_sound hf hy
  obtain ⟨v, hb⟩ : ∃ b, a.eval x = b := ⟨_, rfl⟩
  obtain ⟨g, hg⟩ : ∃ g, a.eval y = g := ⟨_, rfl⟩
  rw [hg] at hv
  obtain ⟨r1, us, r2, _, r4, _⟩ := srcA_sim P hr hs hv
  obtain rfl := List.length_eq_zero_iff.1 r2
  refine ⟨a.eval x, ?_, hp⟩
  rw [hb] at hp ⊢
  have key : ∀ (b' : Option Addr) (c' : Nat), l ≤ c' → v = .slice b' l c' → (Builtin.append_ c.argTypes o.type #[v, a.eval y]).run P w = .ok v w := fun b' c' h e => by
    subst e
    rw [hg]
    exact append_in_run T.a0 T.a1 T.u0 T.u1 T.notInt T.info r1 r4 h (fun _ _ => rfl) (fun _ => rfl)
  cases hp with
  | nilSl => exact key _ _ hl rfl
  | sl => exact key _ _ (by omega) rfl
  | fx => exact key _ _ hl rfl
  | tl => exact key _ _ (Nat.zero_le _) rfl
/-- A row of a room of its own: what is appended stands in a new block. -/
theorem appendFx_ok (T : AppT P o c x y elem inf z d1 t0 t1) {n k l cp m sz fz q : Nat} {t nt : Go.Proofs.YtjfcjpbolokfcaaGreatDoor.Ev.T Value} {vs : List Value} {e : TypeId} (hx : evO f x = some (.slice (some ⟨n, k, some 0⟩) l cp)) (hy : evO f y = some u) (hs : srcA s inf.size u = some (q, vs)) (hn : s.h.get n = some (.cells t m e sz fz) ∨ l = 0) (hq : cp < l + q) (hq2 : l + q ≤ 2 ^ 20) (hk : k + l * inf.size ≤ m)
    (hnt : ∀ i v, i < (l + q) * inf.size → nt.get i = some v → (i < l * inf.size ∧ t.get (k + i) = some v) ∨ (l * inf.size ≤ i ∧ vs[i - l * inf.size]? = some v)) :
    ValOk P o f s (.slice (some ⟨s.nx, 0, none⟩) (l + q) (l + q)) (s.new (.cells nt ((l + q) * inf.size) elem inf.size 0)) := by
  refine valOk_of (sem := fun ev => Builtin.append_ c.argTypes o.type #[ev x, ev y]) (fun ev => append_run T.op T.callee T.args ev) (fun ρ w a hr hf => ?_)
  have hp := evO_sound hf hx
  have hv := evO_sound hf hy
  obtain ⟨b, hb⟩ : ∃ b, a.eval x = b := ⟨_, rfl⟩
  obtain ⟨g, hg⟩ : ∃ g, a.eval y = g := ⟨_, rfl⟩
  rw [hb] at hp
  rw [hg] at hv
  cases hp
  have hadd : (l + q) * inf.size = l * inf.size + q * inf.size := Nat.add_mul _ _ _
  obtain ⟨r1, _⟩ := srcA_sim P hr hs hv
  have hr' := world_drawn hr (w.drawn + 1)
  obtain ⟨_, us, r2, r3, r4, r5⟩ := srcA_sim P hr' hs hv
  obtain ⟨os, q1, hold, q3⟩ : ∃ os : List Value, os.length = l * inf.size ∧ (loadCells ((ρ n).at k) (l * inf.size)).run P { w with drawn := w.drawn + 1 } = .ok os.toArray { w with drawn := w.drawn + 1 } ∧ ∀ j v, j < l * inf.size → t.get (k + j) = some v → ∃ u, os[j]? = some u ∧ VR ρ s.nx v u := by
    rcases hn with hn | rfl
    · obtain ⟨os, q1, q2, q3⟩ := hr'.there hn (l * inf.size) k (by omega)
      refine ⟨os, q1, ?_, q3⟩
      rw [← q1]
      exact run_loadCells_list _ _ os q2
    · rw [Nat.zero_mul]
      exact ⟨[], rfl, rfl, fun j v hj => by omega⟩
  obtain ⟨nc, rest, k1, k2, k3⟩ := append_new_run (P := P) (ty := o.type) (base := some ((ρ n).at k)) (c := cp) T.a0 T.a1 T.u0 T.u1 T.notInt T.info T.zero r1 r4 hold (by omega) hq2 T.small
  rw [T.cells] at k2
  have hsz : (l + q) * inf.size + (nc - (l + q)) * inf.size = nc * inf.size := by
    rw [← Nat.add_mul]
    congr 1
    omega
  have hO : OR (upd ρ s.nx ⟨w.heap.size, 0, nc - (l + q)⟩) (s.nx + 1) ⟨w.heap.size, 0, nc - (l + q)⟩ (.cells nt ((l + q) * inf.size) elem inf.size 0) (some (.cells (os.toArray ++ us.toArray ++ rest) elem)) := by
    refine ⟨_, (0, 0), rfl, ?_, fun i v hi hg2 => ?_, fun j _ _ => by simp⟩
    · simp only [Array.size_append, List.size_toArray, k2, r2, r3, q1]
      omega
    · simp only [Nat.zero_add]
      rcases hnt i v hi hg2 with ⟨h2, h3⟩ | ⟨h2, h3⟩
      · obtain ⟨u2, hu2, hr2⟩ := q3 i v h2 h3
        refine ⟨u2, ?_, hr2.mono (upd_ext _ _ _)⟩
        rw [Array.getElem?_append_left (by simp; omega), Array.getElem?_append_left (by simp; omega)]
        simpa using hu2
      · obtain ⟨y2, hy2, hr2⟩ := r5.at (i := i - l * inf.size) (x := v) (by simpa using h3)
        have hlt2 := arr_lt hy2
        simp only [List.size_toArray] at hlt2
        refine ⟨y2, ?_, hr2.mono (upd_ext _ _ _)⟩
        rw [Array.getElem?_append_left (by simp; omega), Array.getElem?_append_right (by simp; omega)]
        simpa [q1] using hy2
  have st := newAt hr _ _ ⟨w.heap.size, 0, nc - (l + q)⟩ rfl hO (w.drawn + 1)
  have hsl := sl_at (ρ := ρ) (nx := s.nx) (l := l + q) (c := l + q) (b := w.heap.size) (s := 0) (e := nc - (l + q))
  rw [show l + q + (nc - (l + q)) = nc by omega] at hsl
  refine ⟨_, _, .slice (some ⟨w.heap.size, 0, none⟩) (l + q) nc, ?_, st.less get_updH, hsl⟩
  simp only [hb, hg]
  exact k3
/-- The cells of a row that grew. -/
noncomputable def growT (t : Go.Proofs.YtjfcjpbolokfcaaGreatDoor.Ev.T Value) (k n : Nat) (vs : List Value) : Option (Go.Proofs.YtjfcjpbolokfcaaGreatDoor.Ev.T Value) := Nat.casesOn k (some (writeF vs t n)) (fun _ => Option.casesOn (readF t k n) none (fun os => some (writeF vs (ofL os) n)))
theorem readF_get : ∀ (c o : Nat) (t : Go.Proofs.YtjfcjpbolokfcaaGreatDoor.Ev.T Value) (vs : List Value), readF t o c = some vs → vs.length = c ∧ ∀ (i : Nat) v, vs[i]? = some v → t.get (o + i) = some v
  | 0, o, t, vs, hr => by
    obtain rfl := Option.some.inj (show some [] = some vs from hr)
    exact ⟨rfl, fun i v h => by simp at h⟩
  | c + 1, o, t, vs, hr => by
    have hr : (match t.get o with
      | some v => match readF t (o + 1) c with
        | some vs => some (v :: vs)
        | none => none
      | none => none) = some vs := hr
    split at hr
    · rename_i v hv
      split at hr
      · rename_i us hus
        obtain rfl := Option.some.inj hr
        obtain ⟨h1, h2⟩ := readF_get c (o + 1) t us hus
        refine ⟨by simp [h1], fun i x hx => ?_⟩
        cases i with
        | zero =>
          simp at hx
          subst hx
          exact hv
        | succ i =>
          rw [show o + (i + 1) = o + 1 + i by omega]
          exact h2 i x (by simpa using hx)
      · cases hr
    · cases hr
theorem growT_get {t nt : Go.Proofs.YtjfcjpbolokfcaaGreatDoor.Ev.T Value} {k n : Nat} {vs : List Value} (h : growT t k n vs = some nt) : ∀ i v, i < n + vs.length → nt.get i = some v → (i < n ∧ t.get (k + i) = some v) ∨ (n ≤ i ∧ vs[i - n]? = some v) := fun i v hi hg => by
  cases k with
  | zero =>
    obtain rfl := Option.some.inj (show some (writeF vs t n) = some nt from h)
    rcases writeF_get vs t n i v hg with ⟨h1, h2⟩ | ⟨h1, h2⟩
    · exact .inr ⟨h1, h2⟩
    · refine .inl ⟨by omega, ?_⟩
      rw [Nat.zero_add]
      exact h2
  | succ k =>
    change (Option.casesOn (readF t (k + 1) n) none (fun os => some (writeF vs (ofL os) n)) : Option (Go.Proofs.YtjfcjpbolokfcaaGreatDoor.Ev.T Value)) = some nt at h
    rcases hr : readF t (k + 1) n with _ | os
    · rw [hr] at h
      cases h
    · rw [hr] at h
      obtain rfl := Option.some.inj h
      obtain ⟨_, h4⟩ := readF_get _ _ _ _ hr
      rcases writeF_get vs (ofL os) n i v hg with ⟨h1, h2⟩ | ⟨h1, h2⟩
      · exact .inr ⟨h1, h2⟩
      · exact .inl ⟨by omega, h4 i v (ofL_get h2)⟩
end
end Go.Proofs.YtjfcjpbolokfcaaGreatDoor.Ev
