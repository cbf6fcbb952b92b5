/-
  spin.Ring: Join: the walk.
-/
import Derived.Test.YtohkchilogmneaaSpin
import Derived.Deep.DeepCutAuto
namespace Go.Proofs.Ytohkchilogmneaa
open Go.RowKit

/-- 'append(s, x)', s a slice of pointers at whatever offset. -/
theorem wpList_append_arr {P : Program} {w : World} {ops : Array Oper} {rest : List Oper} {o : Oper} {a : Act} {Q : Exit → Act → World → Prop} (hgd : o.guard = none) (s x : Operand) (t : TypeId)
    (hop : o.op = Op.call { callee := Callee.builtin Builtin.append, args := #[s, x], argTypes := #[t, t] }) (e : TypeId) (ht : P.underlying t = some (.slice e)) (hinfo : (P.info? e).map (fun i => (i.zero, i.size, i.bytes)) = some (some (.pointer none), 1, 8))
    {v : Value} {bs : List Nat} (hs : a.eval s = v) (h : ArrIn e w v bs) (u b : Nat) (hx : a.eval x = .slice (some ⟨u, 0, none⟩) 1 1) (hu : w.cell? ⟨u, 0, none⟩ = some (ptrV b)) (hn : bs.length < 1000000)
    (hK : ∀ v' w', ArrIn e w' v' (bs ++ [b]) → w.grownBy w' v.ownBlock → (v'.ownBlock = v.ownBlock ∨ v'.ownBlock = some w.heap.size) → wpList P ops Q rest (a.put o.dst v') w') : wpList P ops Q (o :: rest) a w := by
  refine wpList_plain hgd fun K' hK' => ?_
  obtain ⟨v', w', hrun, r1, r2, r3⟩ := run_append_arr (P := P) t o.type e ht hinfo h u b hu hn
  unfold Oper.wp
  simp [execOp, hop, resolve, invoke, builtin, hs, hx, hrun, Result.andThen]
  exact hK' _ _ (hK v' w' r1 r2 r3)
theorem np_info : (Try.prog.info? 104).map (fun i => (i.zero, i.size, i.bytes)) = some (some (.pointer none), 1, 8) := by kernel_rfl
def JoinPost (pre : List Int) (ρ : Roles) (w : World) (sp : Nat) (q : Int) (gv : Bool) (ns : List Nd) (id wt : Int) (src : Value) (e : Ending) (w' : World) : Prop :=
  e = .returned (.pointer (some ⟨w.heap.size, 0, none⟩)) ∧ Fp (SpinPart ρ pre) w w' ∧ w.heap.size < w'.heap.size ∧ ∃ v', (∀ k, v'.ownBlock = some k → k ≠ w.heap.size ∧ k < w'.heap.size) ∧
    ∀ ρ', Later ρ ρ' w → ρ' w.heap.size = pre ++ [4, id] → (∀ k, v'.ownBlock = some k → w.heap.size ≤ k → ρ' k = pre ++ [3]) → SpinAt pre ρ' w' sp q gv v' (ns ++ [⟨id, wt, 0, w.heap.size, src⟩])
section
variable {pre : List Int} {ρ : Roles} {sp : Nat} {q : Int} {gv : Bool} {v : Value} {ns : List Nd}
set_option maxRecDepth 100000 in
set_option maxHeartbeats 2000000 in
/-- THE WALK: Join. -/
theorem spinJoin_any (id wt : Int) (T : TypeId) (u : Value) (w : World) (hS : SpinAt pre ρ w sp q gv v ns) (hnew : ∀ n ∈ ns, n.id ≠ id) (hf : ns.length < 1000000) :
    Calls Try.prog 50 #[.pointer (some ⟨sp, 0, none⟩), .int .i64 id, .int .i64 wt, .iface T u] w (JoinPost pre ρ w sp q gv ns id wt (.iface T u)) := by
  have HS := Lib.hid hS
  have HNEW := Lib.hid hnew
  have hspw := fp_lt_of_heap hS.head
  have hvw := hS.arr.lt
  have HVW := Lib.hid hvw
  have hsv : v.ownBlock ≠ some sp := fun e => by have h1 := hS.ra sp e; rw [hS.rs] at h1; simp at h1
  have HSV := Lib.hid hsv
  have HL := Lib.hid (show (ns.map Nd.blk).length < 1000000 by simpa using hf)
  clear hS hnew hvw hsv
  go_enter Try.func50, Try.ntmps50
  go_upto_region 2 with fail
  obtain ⟨w1, hw1⟩ : ∃ w1 : World, w1 = w.alloc (.cells #[.int .i64 id, .int .i64 wt, .int .i64 0, .iface T u] 111) := ⟨_, rfl⟩
  rw [← hw1]
  have HB1 := Lib.hid (show Below w.heap.size w w1 by rw [hw1]; exact box_below)
  have hz1 : w1.heap.size = w.heap.size + 1 := by rw [hw1]; simp
  have HN1 := Lib.hid (show w1.heap[w.heap.size]? = some (.cells #[.int .i64 id, .int .i64 wt, .int .i64 0, .iface T u] 111 (0, 0)) by rw [hw1]; exact fr_alloc_at)
  have HS1 := Lib.hid (HS.out.below HB1.out)
  have c1 := HS1.out.c1
  have hspw1 : sp < w1.heap.size := by omega
  have HZ1 := Lib.hid hz1
  have HSW := Lib.hid hspw1
  clear hw1 hz1
  go_wp2_with (at_builtin; refine wpList_append_arr rfl _ _ 98 rfl 104 Try.underlying98 np_info (bs := ns.map Nd.blk) rfl (HS1.out.arr.below box_below) w1.heap.size w.heap.size rfl (cell_alloc_at rfl) HL.out ?_; intro v' w2 harr hg hat; obtain ⟨va, vn, vc, hvf⟩ : ∃ a n c, v' = Value.slice a n c := (by obtain ⟨a, c, h1, _⟩ := harr.form; exact ⟨a, _, c, h1⟩); subst hvf; (have HH2 := Lib.hid ((hg.block sp (Nat.lt_of_lt_of_le HSW.out box_below.size) (fun e => HSV.out e.symm)).trans (fr_alloc_old HS1.out.head))); (have k1 := fr_cell_of_heap HH2.out (i := 1) rfl); (have g1 := fr_free_of_heap (i := 1) HH2.out))
  have HARR := Lib.hid harr
  have HG := Lib.hid hg
  have HAT := Lib.hid hat
  clear harr hg hat
  go_ret
  obtain ⟨v', hv'⟩ : ∃ v', v' = Value.slice va vn vc := ⟨_, rfl⟩
  rw [← hv'] at HARR HAT ⊢
  have hz1 := HZ1.out
  have hz2 : w1.heap.size + 1 ≤ w2.heap.size := by have := HG.out.size; simpa using this
  have hown : ∀ k, v'.ownBlock = some k → (v.ownBlock = some k) ∨ k = w1.heap.size + 1 := fun k hk => by
    rcases HAT.out with h | h
    · exact .inl (h ▸ hk)
    · rw [hk] at h
      simp at h
      exact .inr h
  have hF1 : Fp (SpinPart ρ pre) w w2 := ((Fp.of_below HB1.out).alloc _).grown HG.out (fun k _ hk => .inr (.inl (HS.out.ra k hk)))
  have hspv' : ∀ k, v'.ownBlock = some k → k ≠ sp := fun k hk e => by
    subst e
    rcases hown _ hk with h | h
    · exact HSV.out h
    · omega
  have hold : ∀ k, k < w1.heap.size → v.ownBlock ≠ some k → w2.heap[k]? = w1.heap[k]? := fun k hk hne => (HG.out.block k (by simp; omega) (fun e => hne e.symm)).trans (Below.heap_alloc _ _ _ hk)
  refine ⟨rfl, hF1.setCell (p := ⟨sp, 1, none⟩) (fun _ => .inl HS.out.rs) _, by simp [World.setCell]; omega, v', fun k hk => ⟨?_, ?_⟩, fun ρ' hl hr hr3 => ⟨fr_setCell_at HH2.out, (hl sp hspw).trans HS.out.rs, ?_, fun k hk => ?_, fun i n hn => ?_, ?_, by simp; omega⟩⟩
  · rcases hown k hk with h | h
    · have := HVW.out k h; omega
    · omega
  · have := HARR.out.lt k hk
    simpa [World.setCell] using this
  · have h := HARR.out.kept (w' := w2.setCell ⟨sp, 1, none⟩ v') (fun k hk => fr_setCell_other (hspv' k hk))
    rw [List.map_append]
    exact h
  · rcases Nat.lt_or_ge k w.heap.size with h | h
    · rcases hown k hk with h1 | h1
      · exact (hl k h).trans (HS.out.ra k h1)
      · omega
    · exact hr3 k hk h
  · rcases Nat.lt_or_ge i ns.length with hi | hi
    · rw [List.getElem?_append_left hi] at hn
      have h1 := HS.out.node i n hn
      have h2 := fp_lt_of_heap h1.2
      refine ⟨(hl _ h2).trans h1.1, ?_⟩
      rw [fr_setCell_other (fun e => by have h3 := HS.out.rs; rw [← e, h1.1] at h3; simp at h3), hold _ (by omega) (fun e => by have h3 := HS.out.ra _ e; rw [h1.1] at h3; simp at h3), HB1.out.block _ h2]
      exact h1.2
    · have hi2 : i < (ns ++ [(⟨id, wt, 0, w.heap.size, .iface T u⟩ : Nd)]).length := (List.getElem?_eq_some_iff.1 hn).1
      have hi3 : i = ns.length := by simp at hi2; omega
      subst hi3
      rw [List.getElem?_append_right (by omega), Nat.sub_self] at hn
      simp at hn
      subst hn
      refine ⟨hr, ?_⟩
      rw [fr_setCell_other (by show w.heap.size ≠ sp; omega), hold w.heap.size (by omega) (fun e => by have := HVW.out _ e; omega)]
      exact HN1.out
  · rw [List.map_append, List.nodup_append]
    refine ⟨HS.out.once, by simp, fun a ha b hb => ?_⟩
    simp at hb
    subst hb
    obtain ⟨n, hn, rfl⟩ := List.mem_map.1 ha
    exact HNEW.out n hn
end
end Go.Proofs.Ytohkchilogmneaa
