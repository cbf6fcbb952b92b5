/-
 How a law's walk becomes its row: a call that hands back true and leaves all that lay there as it was.
 How a law's walk becomes its row, where the row lists utf8's tables: the contract, the witness's world.
 Arguments that came in, opened: structs and slices of structs, whatever the number of fields; what a datum weighs.
 Arguments that came in, opened: a slice of elements of whatever type, element by element.
 Calls of pools that came in.
 What the bound on the arguments' bulk gives.
-/
import Derived.Test.YtdbjihkgafhakaaGreatDoorSl01
import Derived.ProofKit
import Derived.OpenShut
import Derived.SizedLaws
import Derived.Lib.SmallJoins
import Derived.ShutString
import Derived.Test.YtdbjihkgafhakaaGreatDoorCards
import Derived.Test.YtdbjihkgafhakaaGreatDoorTie
import Derived.Deep.DeepHandedRow
import Derived.Shelf.Vars
import Derived.SevenTiedAt
import Derived.Deep.Slices
import Derived.Deep.Fields
import Derived.ChangeSame
import Derived.Test.YtdbjihkgafhakaaGreatDoorSl02
import Derived.Test.YtdbjihkgafhakaaGreatDoorSl15
import Derived.Test.YtdbjihkgafhakaaGreatDoorRows
namespace Go.Proofs.YtdbjihkgafhakaaGreatDoor
open Go.ChangeShapes Go.WideShapes Go.ChangeAt Go.RowKit
theorem own : ownKnob Tryz.prog.godebug = none := by kernel_rfl
theorem ZnX : laidOutB Tryz.prog = true := by kernel_rfl
section
variable {H : Type} {enc : TypeId × Value → H} {P : Program}
theorem Zd8 (hl : laidOutB P = true) {W W' : World} (hb : Below W.heap.size W W') : ∀ (ts : List TypeId) (vs : List Value) (ds : List (DataW H)) (ps : List MemPlace),
 (∀ t, t ∈ ts → P.readableRec t = true ∧ t < P.types.size) → DataW.TrodAll enc P W 0 (fun _ => true) true ts vs ds ps → (∀ x ∈ ps, x.block < W.heap.size) →
 DataW.TrodAll enc P W' 0 (fun b => decide (b < W.heap.size)) true ts vs ds ps
 | [], vs, ds, ps, _, h, _ => by
   cases vs <;> cases ds <;> simp [DataW.TrodAll] at h ⊢
   exact h
 | t :: ts, vs, ds, ps, hr, h, hlt => by
   obtain ⟨v, vs', d, ds', p, q, rfl, rfl, rfl, h0, h1⟩ := trodAll_cons h
   obtain ⟨hr0, hr1⟩ := hr t (by simp)
   exact trodAll_cons_mk (hb.trod hl hr0 hr1 h0 (fun x hx => hlt x (List.mem_append_left _ hx)))
    (Zd8 hl hb ts vs' ds' q (fun t ht => hr t (List.mem_cons_of_mem _ ht)) h1 (fun x hx => hlt x (List.mem_append_right _ hx)))
theorem Zft : ∀ {w : World} {base : Nat} {spare : Nat → Bool} {held : Bool} (ts : List TypeId) (vs : List Value) (ds : List (DataW H)) (ps : List MemPlace), DataW.TrodAll enc P w base spare held ts vs ds ps → ds.length = ts.length
 | _, _, _, _, [], vs, ds, ps, h => by cases vs <;> cases ds <;> simp_all [DataW.TrodAll]
 | _, _, _, _, t :: ts, vs, ds, ps, h => by
   obtain ⟨v, vs', d, ds', p, q, rfl, rfl, rfl, h0, h1⟩ := trodAll_cons h
   have := Zft ts vs' ds' q h1
   simp [this]
theorem Znh {f : Func} {s : ChangeSpec} {W W' : World} {args : Array Value} {ds gs : List (DataW H)} {before : List MemPlace} {tb : TypeId}
 (hl : laidOutB P = true) (hr : ∀ t, t ∈ f.params.toList → P.readableRec t = true ∧ t < P.types.size) (hv : s.vars = [])
 (hs : ∀ ds : List (DataW H), ds.length = f.params.size → s.fn H ds = { results := [.lit (.bool true)], args := ds }) (hrt : f.resultTypes = #[tb]) (hb4 : P.underlying tb = some .bool)
 (hW : DataW.Whole enc P f.params.toList s.vars false W args.toList ds gs before) (hb : Below W.heap.size W W') : s.post enc P f false true false false W args (.bool true) W' := by
 have hlt := hW.lt
 have hW' := hW
 obtain ⟨p, q, hA, hV, rfl, _, _⟩ := hW
 rw [hv] at hV
 have hg : gs = [] ∧ q = [] := by
  cases gs with
  | nil => exact ⟨rfl, by simpa [DataW.TrodVars] using hV⟩
  | cons g r => simp [DataW.TrodVars] at hV
 obtain ⟨rfl, rfl⟩ := hg
 have e1 := hs ds (by have := Zft _ _ _ _ hA; simpa using this)
 simp only [List.append_nil] at hlt hW'
 refine ⟨ds, [], p, [], p, [], hW', ?_, ?_, ?_, ?_, fun h => by cases h⟩
 ·rw [List.append_nil, e1, hrt]
  exact trodAll_mk1 (shut_bool hb4 _)
 ·rw [List.append_nil, e1]
  exact Zd8 hl hb _ _ _ _ hr hA hlt
 ·rw [List.append_nil, e1, hv]
  simp [DataW.TrodVars]
 ·exact hb.frame _
theorem Zni {l : List Nat} (h : l.all (· ≤ reachBytes) = true) : ∀ x ∈ l, x ≤ 140737488351232 := by
 intro x hx
 have h1 := List.all_eq_true.1 h x hx
 exact of_decide_eq_true h1
end
theorem Zii {w : World} (h : w.ShapedOpen Tryz.prog) : Ready w :=
 cell_of_shapedOpen_int (g := 0) (t := 3) (zero := #[.int .i64 0]) h (by decide +kernel) (by kernel_rfl) rfl (by kernel_rfl) (by kernel_rfl) Tryz.underlying3
section
variable {H : Type} {enc : TypeId × Value → H} {P : Program}
theorem Zij {C : Checked} {f : FuncId} {fn : Func} {s : ChangeSpec} {ts : List TypeId} {tb : TypeId} (hC : C.prog = P)
 (hp : fn.params.toList = ts) (hl : laidOutB P = true) (hr : ∀ t, t ∈ ts → P.readableRec t = true ∧ t < P.types.size) (hv : s.vars = [])
 (hs : ∀ ds : List (DataW H), ds.length = ts.length → s.fn H ds = { results := [.lit (.bool true)], args := ds }) (hrt : fn.resultTypes = #[tb]) (hb4 : P.underlying tb = some .bool)
 {W : World} {base : Nat} {args : Array Value} {ds gs : List (DataW H)} {before : List MemPlace}
 (hval : ∀ (j : Nat) t v, fn.params[j]? = some t → args[j]? = some v → Value.okWide C.prog W .any base t v)
 (hW : DataW.Whole enc C.prog fn.params.toList s.vars false W args.toList ds gs before)
 (hz : (DataW.weightsEach C.prog (fn.params.toList ++ []) (ds ++ gs)).all (· ≤ reachBytes) = true)
 (walk : ∀ (args : List Value) (ps : List MemPlace), (∀ (j : Nat) t v, ts[j]? = some t → args[j]? = some v → Value.okWide P W .any base t v) →
   DataW.TrodAll enc P W 0 (fun _ => true) true ts args ds ps → (∀ x ∈ DataW.weightsEach P ts ds, x ≤ 140737488351232) → Calls P f args.toArray W fun e W' => e = .returned (.bool true) ∧ Below W.heap.size W W') :
 Calls C.prog f args W fun e W' => ∃ v, e = .returned v ∧ s.post enc C.prog fn false true false false W args v W' := by
 subst hC
 have hW' := hW
 obtain ⟨p, q, hA, hV, rfl, _, _⟩ := hW
 have hg : gs = [] := by
  rw [hv] at hV
  cases gs with
  | nil => rfl
  | cons g r => simp [DataW.TrodVars] at hV
 subst hg
 rw [List.append_nil, List.append_nil, hp] at hz
 rw [hp] at hA
 have hval' : ∀ (j : Nat) t v, ts[j]? = some t → args.toList[j]? = some v → Value.okWide C.prog W .any base t v := fun j t v h1 h2 => hval j t v (by rw [← hp] at h1; simpa using h1) (by simpa using h2)
 refine (walk args.toList p hval' hA (Zni hz)).mono fun e W' ⟨he, hb⟩ => ?_
 exact ⟨_, he, Znh hl (by rw [hp]; exact hr) hv (fun ds h => hs ds (by rw [h, ← hp]; simp)) hrt hb4 hW' hb⟩
end
def flat1 : DataW Unit → List Value
 | .agg l => l.filterMap fun | .lit (.int k x) => some (.int k x) | _ => none
 | _ => []
def flat2 : DataW Unit → List Value
 | .agg l => l.flatMap flat1
 | _ => []
def layIn (cs : Array Value) : Obj → Obj
 | .cells _ t frozen => .cells cs t frozen
 | o => o
noncomputable def laidWorld (os : Os) : World :=
 { World.holding Tryz.prog os ⟨#[], #[], []⟩ with heap := ((World.holding Tryz.prog os ⟨#[], #[], []⟩).heap.modify 2 (layIn (flat2 Rows.laid_unicode_utf8_acceptRanges).toArray)).modify 1 (layIn (flat1 Rows.laid_unicode_utf8_first).toArray) }
theorem Znj (os : Os) (args : Array Value) : laidMet Tryz.prog Rows.poolTurnRow.laid ((laidWorld os).forCall (fun _ _ => 0) ⟨#[], args, []⟩).memory :=
 laidMet_of_run' 8 (by kernel_rfl) (by kernel_rfl)
open Go.Deep
section
variable {H : Type} {enc : TypeId × Value → H} {P : Program} {w : World} {base : Nat} {spare : Nat → Bool} {held : Bool}
theorem Zg6 {w : World} {a : Addr} {u : Value} (h : w.cell? a = some u) : a.spot = none := by
 unfold World.cell? at h
 split at h
 ·split at h
  ·cases h
  ·rename_i hs; simpa using hs
 ·cases h
theorem Zdv {e : TypeId} {d : DataW H} {x : Nat} : ∀ {l : List (DataW H)}, d ∈ l → x ∈ d.weights P e → x ∈ DataW.weightsAll P e l
 | [], h, _ => by cases h
 | a :: r, h, hx => by
   rw [DataW.weightsAll]
   rcases List.mem_cons.1 h with rfl | h
   ·exact List.mem_append_left _ hx
   ·exact List.mem_append_right _ (Zdv h hx)
theorem Zbw {t : TypeId} {d : DataW H} {x : Nat} : ∀ {ts : List TypeId} {ds : List (DataW H)} {i : Nat}, ts[i]? = some t → ds[i]? = some d → x ∈ d.weights P t → x ∈ DataW.weightsEach P ts ds
 | [], _, _, h, _, _ => by simp at h
 | _ :: _, [], _, _, h, _ => by simp at h
 | t0 :: ts, d0 :: ds, i, ht, hd, hx => by
   rw [DataW.weightsEach]
   cases i with
   | zero =>
     simp at ht hd
     subst ht hd
     exact List.mem_append_left _ hx
   | succ i => exact List.mem_append_right _ (Zbw (i := i) (by simpa using ht) (by simpa using hd) hx)
theorem ZeZ {t e : TypeId} {l sp : List (DataW H)} (ht : P.underlying t = some (.slice e)) : (l.length + sp.length) * P.bytesOf e ∈ DataW.weights P t (.slice l sp) := by
 simp [DataW.weights, ht]
theorem ZcC {t e : TypeId} {l sp : List (DataW H)} {d : DataW H} {x : Nat} (ht : P.underlying t = some (.slice e)) (hd : d ∈ l) (hx : x ∈ d.weights P e) : x ∈ DataW.weights P t (.slice l sp) := by
 simp only [DataW.weights, ht]
 exact List.mem_cons_of_mem _ (List.mem_append_left _ (Zdv hd hx))
theorem Zae {t : TypeId} {fs : Array Field} {l : List (DataW H)} {d : DataW H} {x j : Nat} {f : Field} (ht : P.underlying t = some (.struct fs)) (hf : fs[j]? = some f) (hd : l[j]? = some d) (hx : x ∈ d.weights P f.type) : x ∈ DataW.weights P t (.agg l) := by
 simp only [DataW.weights, ht]
 exact Zbw (i := j) (by simp [hf]) hd hx
end
section
variable {H : Type} {enc : TypeId × Value → H} {P : Program} {w : World} {base : Nat} {spare : Nat → Bool} {held : Bool}
theorem Zfu {α : Type} (n : Nat) (p : Nat → α → Prop) (h : ∀ i, i < n → ∃ x, p i x) : ∃ l : List α, l.length = n ∧ ∀ i x, l[i]? = some x → p i x := by
 induction n with
 | zero => exact ⟨[], rfl, fun i x hx => by simp at hx⟩
 | succ n ih =>
   obtain ⟨l, hl, hp⟩ := ih (fun i hi => h i (by omega))
   obtain ⟨x, hx⟩ := h n (by omega)
   refine ⟨l ++ [x], by simp [hl], fun i y hy => ?_⟩
   rcases Nat.lt_or_ge i n with hi | hi
   ·rw [List.getElem?_append_left (by omega)] at hy
    exact hp i y hy
   ·have hi2 : i < (l ++ [x]).length := (List.getElem?_eq_some_iff.1 hy).1
    have : i = n := by simp at hi2; omega
    subst this
    rw [List.getElem?_append_right (by omega), hl, Nat.sub_self] at hy
    simp at hy
    subst hy
    exact hx
theorem Zgh {α : Type} (en : α → List Value) (K : Nat) (hK : ∀ x, (en x).length = K) (h0 : 0 < K) {l : List α} {j : Nat} {u : Value} (h : (l.flatMap en)[j]? = some u) : ∃ x, l[j / K]? = some x ∧ (en x)[j % K]? = some u := by
 have hj : j < l.length * K := by rw [← Zbc en K hK l]; exact (List.getElem?_eq_some_iff.1 h).1
 have hd : j / K < l.length := Nat.div_lt_of_lt_mul (by rw [Nat.mul_comm]; exact hj)
 have hm : j % K < K := Nat.mod_lt _ h0
 refine ⟨l[j / K], List.getElem?_eq_getElem hd, ?_⟩
 rw [← Zbf en K hK (j % K) (List.getElem?_eq_getElem hd) hm, Nat.mul_comm, Nat.div_add_mod]
 exact h
theorem Znk {α : Type} (en : α → List Value) (K : Nat) (hK : ∀ x, (en x).length = K) (h0 : 0 < K) (Q : α → Prop) {t e : TypeId} {fuel : Nat} {v : Value} {x : DataW H × List MemPlace} (ht : P.underlying t = some (.slice e)) (hC : P.cellsOf e = K)
 (dec : ∀ (n : Nat) (cs : List Value) (y : DataW H × List MemPlace), DataW.trod enc P w base spare held n e cs = some y → (∀ z ∈ y.1.weights P e, z ≤ 140737488351232) → ∃ x, cs = en x ∧ Q x)
 (hz : ∀ z ∈ x.1.weights P t, z ≤ 140737488351232) (h : DataW.trod enc P w base spare held fuel t [v] = some x) :
 ∃ (l : List α) (a : Option Addr) (cap : Nat), v = .slice a l.length cap ∧ l.length ≤ cap ∧ (l.length = 0 ∨ l.length * P.bytesOf e ≤ 140737488351232) ∧ (∀ y ∈ l, Q y) ∧
  ∀ (j : Nat) u, (l.flatMap en)[j]? = some u → ∃ g off, a = some ⟨g, off, none⟩ ∧ w.cell? ⟨g, off + j, none⟩ = some u := by
 rcases open_slice ht h with ⟨h1, h2⟩ | ⟨a, len, cap, m, n, D, Pl, hcs, hb, hl, hm, hmm, hx, hi⟩
 ·have : v = .slice none 0 0 := by simpa using h1
  subst this
  exact ⟨[], none, 0, rfl, Nat.le_refl _, .inl rfl, (fun y hy => by cases hy), (fun j u hu => by simp at hu)⟩
 ·have : v = .slice (some a) len cap := by simpa using hcs
  subst this
  have hlm : len ≤ m := by rw [hmm]; split <;> omega
  have key : ∀ i, i < len → ∃ y : α, Q y ∧ w.cells? base (a.add (i * K)) K = some (en y) := by
   intro i hil
   obtain ⟨cs', hc, ht'⟩ := hi i (by omega)
   rw [hC] at hc
   obtain ⟨y, rfl, hq⟩ := dec n cs' _ ht' (fun z hzz => hz z (by rw [hx]; exact ZcC ht (d := D i) (List.mem_map.2 ⟨i, List.mem_range.2 hil, rfl⟩) hzz))
   exact ⟨y, hq, hc⟩
  obtain ⟨l, hlen, hp⟩ := Zfu len _ key
  subst hlen
  refine ⟨l, some a, cap, rfl, hl, ?_, fun y hy => ?_, fun j u hu => ?_⟩
  ·right
   have h1 := hz _ (by rw [hx]; exact ZeZ ht)
   simp only [List.length_map, List.length_range] at h1
   exact Nat.le_trans (Nat.mul_le_mul_right _ (by omega)) h1
  ·obtain ⟨i, hi2, rfl⟩ := List.getElem_of_mem hy
   exact (hp i _ (List.getElem?_eq_getElem hi2)).1
  ·obtain ⟨y, hy, hu2⟩ := Zgh en K hK h0 hu
   have hc := (hp _ _ hy).2
   obtain ⟨_, hcl, hat⟩ := World.cells?_some hc
   have hm2 : j % K < K := Nat.mod_lt _ h0
   have h1 := hat (j % K) hm2
   rw [hu2] at h1
   obtain ⟨b, off, spot⟩ := a
   have hsp : spot = none := by
    have hl0 : 0 < l.length := Nat.lt_of_le_of_lt (Nat.zero_le _) (List.getElem?_eq_some_iff.1 hy).1
    have hc0 := (hp 0 _ (List.getElem?_eq_getElem hl0)).2
    obtain ⟨_, hcl0, hat0⟩ := World.cells?_some hc0
    have h2 := hat0 0 h0
    rw [List.getElem?_eq_getElem (show 0 < (en l[0]).length by rw [hK]; exact h0)] at h2
    simp only [Nat.zero_mul, Addr.add, if_true] at h2
    exact Zg6 h2
   subst hsp
   refine ⟨b, off, rfl, ?_⟩
   rw [← h1]
   congr 1
   have e : ∀ (o i : Nat), (⟨b, o, none⟩ : Addr).add i = ⟨b, o + i, none⟩ := fun o i => by unfold Addr.add; split <;> simp_all
   rw [e, e, Nat.add_assoc, Nat.mul_comm, Nat.div_add_mod]
end
theorem Zg7 : Tryz.prog.cellsOf 27 = 10 := by kernel_rfl
theorem Zgi : Tryz.prog.cellsOf 25 = 8 := by kernel_rfl
theorem o_str : Tryz.prog.cellsOf 9 = 1 := by kernel_rfl
theorem o_int : Tryz.prog.cellsOf 3 = 1 := by kernel_rfl
theorem Znl : Tryz.prog.cellsOf 22 = 3 := by kernel_rfl
def EntOk (e : Ent) : Prop := I64 e.cls ∧ I64 e.ten ∧ I64 e.tw ∧ I64 e.inv ∧ I64 e.iw ∧ I64 e.id ∧ I64 e.cost
theorem Zak {fs : Array Field} {l : List (TypeId × Nat)} (h : fs.toList.map (fun f => (f.type, f.offset)) = l) {j : Nat} {t : TypeId} {o : Nat} (ht : l[j]? = some (t, o)) : ∃ f, fs[j]? = some f ∧ f.type = t ∧ f.offset = o := by
 rw [← h, List.getElem?_map] at ht
 cases hj : fs.toList[j]? with
 | none => rw [hj] at ht; cases ht
 | some f =>
   rw [hj] at ht
   simp at ht
   exact ⟨f, by simpa using hj, ht.1, ht.2⟩
theorem ZkL : ∃ fs, Tryz.prog.underlying 25 = some (.struct fs) ∧ fs.toList.map (fun f => (f.type, f.offset)) = [(9, 0), (3, 1), (3, 2), (3, 3), (3, 4), (3, 5), (3, 6), (3, 7)] := ⟨_, Tryz.underlying25, by kernel_rfl⟩
theorem ZlY : ∃ fs, Tryz.prog.underlying 27 = some (.struct fs) ∧ fs.toList.map (fun f => (f.type, f.offset)) = [(3, 0), (25, 1), (9, 9)] := ⟨_, Tryz.underlying27, by kernel_rfl⟩
def Zik (x : Ent) : List Value := [.string x.need, .int .i64 x.cls, .int .i64 x.ten, .int .i64 x.tw, .int .i64 x.inv, .int .i64 x.iw, .int .i64 x.id, .int .i64 x.cost]
section
variable {H : Type} {enc : TypeId × Value → H} {W : World} {base : Nat} {sp : Nat → Bool} {hd : Bool}
theorem Z9 {n : Nat} {cs : List Value} {y : Option (DataW H × List MemPlace)} {ys : DataW H × List MemPlace} (h : DataW.trod enc Tryz.prog W base sp hd n 3 cs = y) (hy : y = some ys) : ∃ k : Int, cs = [.int .i64 k] ∧ I64 k := by
 subst hy
 obtain ⟨k, e, _, hw⟩ := DataW.trod_int Tryz.underlying3 h
 exact ⟨k, e, hw⟩
theorem Zgz {n : Nat} {cs : List Value} {y : Option (DataW H × List MemPlace)} {ys : DataW H × List MemPlace} (h : DataW.trod enc Tryz.prog W base sp hd n 9 cs = y) (hy : y = some ys) : ∃ s : ByteArray, cs = [.string s] := by
 subst hy
 obtain ⟨s, e, rfl, _⟩ := DataW.trod_string Tryz.underlying9 h
 exact ⟨s, e⟩
set_option maxRecDepth 100000 in
theorem ZnY {n : Nat} {cs : List Value} {y : Option (DataW H × List MemPlace)} {ys : DataW H × List MemPlace} (h : DataW.trod enc Tryz.prog W base sp hd n 25 cs = y) (hy : y = some ys) : ∃ x : Ent, cs = Zik x ∧ EntOk x := by
 subst hy
 obtain ⟨fs, hu, hfs⟩ := ZkL
 obtain ⟨zs, m, _, hy, hlen, hyl, hf⟩ := DataW.trod_struct hu h
 have hsz : fs.size = 8 := by have := congrArg List.length hfs; simpa using this
 rw [Zgi] at hlen
 have hzs (j : Nat) (hj : j < 8) : zs[j]? = some (zs[j]'(by omega)) := List.getElem?_eq_getElem (by omega)
 obtain ⟨u0, u1, u2, u3, u4, u5, u6, u7, rfl⟩ : ∃ u0 u1 u2 u3 u4 u5 u6 u7, cs = [u0, u1, u2, u3, u4, u5, u6, u7] := by
  match cs, hlen with
  | [u0, u1, u2, u3, u4, u5, u6, u7], _ => exact ⟨_, _, _, _, _, _, _, _, rfl⟩
 have key (j : Nat) (t : TypeId) (o : Nat) (ht : ([(9, 0), (3, 1), (3, 2), (3, 3), (3, 4), (3, 5), (3, 6), (3, 7)] : List (TypeId × Nat))[j]? = some (t, o)) (h1 : Tryz.prog.cellsOf t = 1) : DataW.trod enc Tryz.prog W base sp hd m t (([u0, u1, u2, u3, u4, u5, u6, u7].drop o).take 1) = zs[j]? := by
  obtain ⟨f, hj, rfl, rfl⟩ := Zak hfs ht
  have := hf j f hj
  rw [h1] at this
  exact this
 obtain ⟨k0, e0⟩ := Zgz (key 0 _ _ rfl o_str) (hzs 0 (by omega))
 obtain ⟨k1, e1, w1⟩ := Z9 (key 1 _ _ rfl o_int) (hzs 1 (by omega))
 obtain ⟨k2, e2, w2⟩ := Z9 (key 2 _ _ rfl o_int) (hzs 2 (by omega))
 obtain ⟨k3, e3, w3⟩ := Z9 (key 3 _ _ rfl o_int) (hzs 3 (by omega))
 obtain ⟨k4, e4, w4⟩ := Z9 (key 4 _ _ rfl o_int) (hzs 4 (by omega))
 obtain ⟨k5, e5, w5⟩ := Z9 (key 5 _ _ rfl o_int) (hzs 5 (by omega))
 obtain ⟨k6, e6, w6⟩ := Z9 (key 6 _ _ rfl o_int) (hzs 6 (by omega))
 obtain ⟨k7, e7, w7⟩ := Z9 (key 7 _ _ rfl o_int) (hzs 7 (by omega))
 simp at e0 e1 e2 e3 e4 e5 e6 e7
 subst e0 e1 e2 e3 e4 e5 e6 e7
 exact ⟨⟨k0, k1, k2, k3, k4, k5, k6, k7⟩, rfl, w1, w2, w3, w4, w5, w6, w7⟩
set_option maxRecDepth 100000 in
theorem Zoe {n : Nat} {cs : List Value} {y : DataW H × List MemPlace} (h : DataW.trod enc Tryz.prog W base sp hd n 27 cs = some y) : ∃ x : Pa, cs = encPa x ∧ EntOk x.e := by
 obtain ⟨fs, hu, hfs⟩ := ZlY
 obtain ⟨zs, m, _, hy, hlen, hyl, hf⟩ := DataW.trod_struct hu h
 have hsz : fs.size = 3 := by have := congrArg List.length hfs; simpa using this
 rw [Zg7] at hlen
 have hzs (j : Nat) (hj : j < 3) : zs[j]? = some (zs[j]'(by omega)) := List.getElem?_eq_getElem (by omega)
 obtain ⟨u0, u1, u2, u3, u4, u5, u6, u7, u8, u9, rfl⟩ : ∃ u0 u1 u2 u3 u4 u5 u6 u7 u8 u9, cs = [u0, u1, u2, u3, u4, u5, u6, u7, u8, u9] := by
  match cs, hlen with
  | [u0, u1, u2, u3, u4, u5, u6, u7, u8, u9], _ => exact ⟨_, _, _, _, _, _, _, _, _, _, rfl⟩
 have key (j : Nat) (t : TypeId) (o k : Nat) (ht : ([(3, 0), (25, 1), (9, 9)] : List (TypeId × Nat))[j]? = some (t, o)) (h1 : Tryz.prog.cellsOf t = k) : DataW.trod enc Tryz.prog W base sp hd m t (([u0, u1, u2, u3, u4, u5, u6, u7, u8, u9].drop o).take k) = zs[j]? := by
  obtain ⟨f, hj, rfl, rfl⟩ := Zak hfs ht
  have := hf j f hj
  rw [h1] at this
  exact this
 obtain ⟨k0, e0, w0⟩ := Z9 (key 0 _ _ 1 rfl o_int) (hzs 0 (by omega))
 obtain ⟨x, e1, hx⟩ := ZnY (key 1 _ _ 8 rfl Zgi) (hzs 1 (by omega))
 obtain ⟨s, e2⟩ := Zgz (key 2 _ _ 1 rfl o_str) (hzs 2 (by omega))
 simp at e0 e2
 subst e0 e2
 have e1' : [u1, u2, u3, u4, u5, u6, u7, u8] = Zik x := e1
 unfold Zik at e1'
 simp only [List.cons.injEq, and_true] at e1'
 obtain ⟨rfl, rfl, rfl, rfl, rfl, rfl, rfl, rfl⟩ := e1'
 exact ⟨⟨k0, x, s⟩, rfl, hx⟩
theorem ZeB (x : Pa) : (encPa x).length = 10 := rfl
theorem Znm {fuel : Nat} {v : Value} {x : DataW H × List MemPlace} (hz : ∀ z ∈ x.1.weights Tryz.prog 23, z ≤ 140737488351232) (h : DataW.trod enc Tryz.prog W base sp hd fuel 23 [v] = some x) : ∃ l, PasAt W v l ∧ ∀ y ∈ l, EntOk y.e := by
 obtain ⟨l, a, cap, hv, _, _, hq, hc⟩ := Znk encPa 10 ZeB (by decide) (fun y => EntOk y.e) Tryz.underlying23 Zg7 (fun n cs y h1 _ => Zoe h1) hz h
 refine ⟨l, ⟨a, cap, hv, fun k y hy => ?_⟩, hq⟩
 have key : ∀ i u, (encPa y)[i]? = some u → (l.flatMap encPa)[k * 10 + i]? = some u := fun i u hu => by
  have hi : i < 10 := by rw [← ZeB y]; exact (List.getElem?_eq_some_iff.1 hu).1
  rw [Zbf encPa 10 ZeB i hy hi]
  exact hu
 obtain ⟨g, off, rfl, _⟩ := hc _ _ (key 0 _ rfl)
 refine ⟨g, off, rfl, fun i u hu => ?_⟩
 obtain ⟨g', off', he, h0⟩ := hc _ _ (key i u hu)
 cases he
 rw [Nat.add_assoc]
 exact h0
end
theorem ZfH {H : Type} {d : DataW H} : ∀ {l : List (DataW H)}, d ∈ l → Rows.uptoBulk d ≤ Rows.uptoBulkAll l
 | [], h => by cases h
 | x :: r, h => by
   simp only [Rows.uptoBulkAll]
   rcases List.mem_cons.1 h with rfl | h
   ·omega
   ·have := ZfH h
    omega
theorem ZkM {H : Type} {l : List (DataW H)} (h : Rows.uptoSmall H l = true) : Rows.uptoBulkAll l ≤ 1048576 := of_decide_eq_true h
theorem ZlZ {H : Type} {l : List (DataW H)} (h : Rows.uptoSmall H l = true) {d : DataW H} (hd : d ∈ l) : Rows.uptoBulk d ≤ 1048576 :=
 Nat.le_trans (ZfH hd) (ZkM h)
end Go.Proofs.YtdbjihkgafhakaaGreatDoor
