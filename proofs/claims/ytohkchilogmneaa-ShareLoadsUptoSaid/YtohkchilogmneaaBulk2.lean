/-
  What the bound on the arguments' bulk gives: sums over slices that came in; a law's row under the bound.
-/
import Derived.Test.YtohkchilogmneaaOpen15
import Derived.Test.YtohkchilogmneaaBulk
import Derived.Test.YtohkchilogmneaaLaw
import Derived.Deep.CondSized
namespace Go.Proofs.Ytohkchilogmneaa
open Go.ChangeShapes Go.WideShapes Go.ChangeAt Go.RowKit Go.Deep

theorem bulk_pos {H : Type} (d : DataW H) : 1 ≤ Rows.uptoBulk d := by
  cases d with
  | lit l => cases l <;> simp [Rows.uptoBulk]
  | nil => simp [Rows.uptoBulk]
  | ptr d => simp [Rows.uptoBulk]
  | slice elems spare => simp [Rows.uptoBulk]
  | agg parts => simp [Rows.uptoBulk]
  | iface t d => simp [Rows.uptoBulk]
  | map entries => simp [Rows.uptoBulk]
  | held h => simp [Rows.uptoBulk]
theorem bulk_agg {H : Type} {d : DataW H} {l : List (DataW H)} (h : d ∈ l) : Rows.uptoBulk d + 1 ≤ Rows.uptoBulk (.agg l) := by
  have := bulk_mem h
  simp only [Rows.uptoBulk]
  omega
theorem sum_two {α : Type} (f : α → Nat) (l : List α) : (l.map (fun x => 2 * f x)).sum = 2 * (l.map f).sum := by
  induction l with
  | nil => rfl
  | cons x r ih =>
    simp only [List.map_cons, List.sum_cons, ih]
    omega
theorem sum_one {α : Type} (l : List α) : (l.map (fun _ => 1)).sum = l.length := by
  induction l with
  | nil => rfl
  | cons x r ih =>
    simp only [List.map_cons, List.sum_cons, ih, List.length_cons]
    omega
theorem bulkAll_app {H : Type} (l r : List (DataW H)) : Rows.uptoBulkAll (l ++ r) = Rows.uptoBulkAll l + Rows.uptoBulkAll r := by
  induction l with
  | nil => simp [Rows.uptoBulkAll]
  | cons x l ih => simp only [List.cons_append, Rows.uptoBulkAll, ih]; omega
theorem bulk_sum {α H : Type} (m : α → Nat) (D : Nat → DataW H) : ∀ (l : List α) (n : Nat), (∀ i x, l[i]? = some x → m x ≤ Rows.uptoBulk (D (n + i))) → (l.map m).sum ≤ Rows.uptoBulkAll ((List.range' n l.length).map D)
  | [], n, _ => by simp
  | x :: r, n, h => by
    have h0 := h 0 x rfl
    have ih := bulk_sum m D r (n + 1) (fun i y hy => by
      have := h (i + 1) y hy
      rwa [show n + (i + 1) = n + 1 + i by omega] at this)
    simp only [List.map_cons, List.sum_cons, List.length_cons, List.range'_succ, Rows.uptoBulkAll]
    simp only [Nat.add_zero] at h0
    omega
section
variable {H : Type} {enc : TypeId × Value → H} {P : Program} {w : World} {base : Nat} {spare : Nat → Bool} {held : Bool}
/-- A slice that came in, its elements by a decoder; what they measure is at most the bulk. -/
theorem open_enc_sum {α : Type} (en : α → List Value) (K : Nat) (hK : ∀ x, (en x).length = K) (h0 : 0 < K) (Q : α → Prop) (ms : α → Nat) {t e : TypeId} {fuel : Nat} {v : Value} {x : DataW H × List MemPlace} (ht : P.underlying t = some (.slice e)) (hC : P.cellsOf e = K)
    (dec : ∀ (n : Nat) (cs : List Value) (y : DataW H × List MemPlace), DataW.trod enc P w base spare held n e cs = some y → (∀ z ∈ y.1.weights P e, z ≤ 140737488351232) → ∃ x, cs = en x ∧ Q x ∧ ms x ≤ Rows.uptoBulk y.1)
    (hz : ∀ z ∈ x.1.weights P t, z ≤ 140737488351232) (h : DataW.trod enc P w base spare held fuel t [v] = some x) :
    ∃ (l : List α) (a : Option Addr) (cap : Nat), v = .slice a l.length cap ∧ l.length ≤ cap ∧ (∀ y ∈ l, Q y) ∧ (l.map ms).sum ≤ Rows.uptoBulk x.1 ∧
      ∀ (j : Nat) u, (l.flatMap en)[j]? = some u → ∃ g off, a = some ⟨g, off, none⟩ ∧ w.cell? ⟨g, off + j, none⟩ = some u := by
  rcases open_slice ht h with ⟨h1, h2⟩ | ⟨a, len, cap, m, n, D, Pl, hcs, hb, hl, hm, hmm, hx, hi⟩
  · have : v = .slice none 0 0 := by simpa using h1
    subst this
    exact ⟨[], none, 0, rfl, Nat.le_refl _, (fun y hy => by cases hy), by simp, (fun j u hu => by simp at hu)⟩
  · have : v = .slice (some a) len cap := by simpa using hcs
    subst this
    have hlm : len ≤ m := by rw [hmm]; split <;> omega
    have key : ∀ i, i < len → ∃ y : α, (Q y ∧ ms y ≤ Rows.uptoBulk (D i)) ∧ w.cells? base (a.add (i * K)) K = some (en y) := by
      intro i hil
      obtain ⟨cs', hc, ht'⟩ := hi i (by omega)
      rw [hC] at hc
      obtain ⟨y, rfl, hq⟩ := dec n cs' _ ht' (fun z hzz => hz z (by rw [hx]; exact weights_slice_mem ht (d := D i) (List.mem_map.2 ⟨i, List.mem_range.2 hil, rfl⟩) hzz))
      exact ⟨y, hq, hc⟩
    obtain ⟨l, hlen, hp⟩ := choose_list len _ key
    subst hlen
    refine ⟨l, some a, cap, rfl, hl, fun y hy => ?_, ?_, fun j u hu => ?_⟩
    · obtain ⟨i, hi2, rfl⟩ := List.getElem_of_mem hy
      exact (hp i _ (List.getElem?_eq_getElem hi2)).1.1
    · have hs := bulk_sum ms D l 0 (fun i x hx => by
        rw [Nat.zero_add]
        exact (hp i x hx).1.2)
      rw [hx]
      simp only [Rows.uptoBulk]
      rw [← List.range_eq_range'] at hs
      omega
    · obtain ⟨y, hy, hu2⟩ := flat_split en K hK h0 hu
      have hc := (hp _ _ hy).2
      obtain ⟨_, hcl, hat⟩ := World.cells?_some hc
      have hm2 : j % K < K := Nat.mod_lt _ h0
      have h1 := hat (j % K) hm2
      rw [hu2] at h1
      obtain ⟨b, off, spot⟩ := a
      have hsp : spot = none := by
        have hl0 : 0 < l.length := Nat.lt_of_le_of_lt (Nat.zero_le _) (List.getElem?_eq_some_iff.1 hy).1
        have hc0 := (hp 0 _ (List.getElem?_eq_getElem hl0)).2
        obtain ⟨_, hcl0, hat0⟩ := World.cells?_some hc0
        have h2 := hat0 0 h0
        rw [List.getElem?_eq_getElem (show 0 < (en l[0]).length by rw [hK]; exact h0)] at h2
        simp only [Nat.zero_mul, Addr.add, if_true] at h2
        exact cell_spot h2
      subst hsp
      refine ⟨b, off, rfl, ?_⟩
      rw [← h1]
      congr 1
      have e : ∀ (o i : Nat), (⟨b, o, none⟩ : Addr).add i = ⟨b, o + i, none⟩ := fun o i => by unfold Addr.add; split <;> simp_all
      rw [e, e, Nat.add_assoc, Nat.mul_comm, Nat.div_add_mod]
theorem law_contract {C : Checked} {f : FuncId} {fn : Func} {s : ChangeSpec} {ts : List TypeId} {tb : TypeId} (hC : C.prog = P)
    (hp : fn.params.toList = ts) (hl : laidOutB P = true) (hr : ∀ t, t ∈ ts → P.readableRec t = true ∧ t < P.types.size) (hv : s.vars = [])
    (hs : ∀ ds : List (DataW H), ds.length = ts.length → s.fn H ds = { results := [.lit (.bool true)], args := ds }) (hrt : fn.resultTypes = #[tb]) (hb4 : P.underlying tb = some .bool)
    {W : World} {base : Nat} {args : Array Value} {ds gs : List (DataW H)} {before : List MemPlace}
    (hval : ∀ (j : Nat) t v, fn.params[j]? = some t → args[j]? = some v → Value.okWide C.prog W .any base t v)
    (hW : DataW.Whole enc C.prog fn.params.toList s.vars false W args.toList ds gs before)
    (hz : (DataW.weightsEach C.prog (fn.params.toList ++ []) (ds ++ gs)).all (· ≤ reachBytes) = true) (hk : Rows.uptoSmall H (ds ++ gs) = true)
    (walk : ∀ (args : List Value) (ps : List MemPlace), (∀ (j : Nat) t v, ts[j]? = some t → args[j]? = some v → Value.okWide P W .any base t v) →
      DataW.TrodAll enc P W 0 (fun _ => true) true ts args ds ps → (∀ x ∈ DataW.weightsEach P ts ds, x ≤ 140737488351232) → Rows.uptoBulkAll ds ≤ 1048576 → Calls P f args.toArray W fun e W' => e = .returned (.bool true) ∧ Below W.heap.size W W') :
    Calls C.prog f args W fun e W' => ∃ v, e = .returned v ∧ s.post enc C.prog fn false true false false W args v W' := by
  subst hC
  have hW' := hW
  obtain ⟨p, q, hA, hV, rfl, _, _⟩ := hW
  have hg : gs = [] := by
    rw [hv] at hV
    cases gs with
    | nil => rfl
    | cons g r => simp [DataW.TrodVars] at hV
  subst hg
  rw [List.append_nil, List.append_nil, hp] at hz
  rw [List.append_nil] at hk
  rw [hp] at hA
  have hval' : ∀ (j : Nat) t v, ts[j]? = some t → args.toList[j]? = some v → Value.okWide C.prog W .any base t v := fun j t v h1 h2 => hval j t v (by rw [← hp] at h1; simpa using h1) (by simpa using h2)
  refine (walk args.toList p hval' hA (reach_le hz) (bulk_bound hk)).mono fun e W' ⟨he, hb⟩ => ?_
  exact ⟨_, he, law_post hl (by rw [hp]; exact hr) hv (fun ds h => hs ds (by rw [h, ← hp]; simp)) hrt hb4 hW' hb⟩
end
end Go.Proofs.Ytohkchilogmneaa
