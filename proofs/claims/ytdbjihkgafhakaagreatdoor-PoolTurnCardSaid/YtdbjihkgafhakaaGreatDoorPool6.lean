/-
  pool.Pools: Push, Drop, Waits, Uses: the walks.
-/
import Derived.Test.YtdbjihkgafhakaaGreatDoorPool5
namespace Go.Proofs.YtdbjihkgafhakaaGreatDoor
open Go.RowKit

set_option maxRecDepth 100000 in
set_option maxHeartbeats 1000000 in
theorem shareOk_nil (w : World) : Calls Tryz.prog 57 #[.pointer none] w fun e w' => e = .returned (.bool false) ∧ w = w' := by
  go_enter Tryz.func57, Tryz.ntmps57
  go_wp2
  go_ret
  exact ⟨rfl, rfl⟩
set_option maxRecDepth 100000 in
set_option maxHeartbeats 1000000 in
theorem tenant_nil (id : Int) (w : World) : Calls Tryz.prog 58 #[.pointer none, .int .i64 id] w fun e w' => e = .returned (.tuple #[.pointer none, .pointer none]) ∧ w = w' := by
  go_enter Tryz.func58, Tryz.ntmps58
  go_wp2_with fail
  refine (shareOk_nil _).mono ?_
  rintro e w1 ⟨rfl, rfl⟩
  go_wp2_with fail
  exact bodyPost_ret (v := .tuple #[.pointer none, .pointer none]) (by simp [results, Tryz.results58, go_sem]) rfl ⟨rfl, rfl⟩
set_option maxRecDepth 100000 in
set_option maxHeartbeats 1000000 in
theorem shareDrop_nil (id inv i : Int) (w : World) : Calls Tryz.prog 32 #[.pointer none, .int .i64 id, .int .i64 inv, .int .i64 i] w fun e w' => e = .returned (.bool false) ∧ Below w.heap.size w w' := by
  go_enter Tryz.func32, Tryz.ntmps32
  go_wp2_with fail
  refine (tenant_nil id _).mono ?_
  rintro e w1 ⟨rfl, rfl⟩
  go_wp2_with fail
  refine (flowDrop_nilring inv i _).mono ?_
  rintro e w2 ⟨rfl, hb2⟩
  have HB2 := Lib.hid hb2
  clear hb2
  go_wp2_with fail
  go_ret
  exact ⟨rfl, HB2.out⟩
set_option maxRecDepth 100000 in
set_option maxHeartbeats 1000000 in
theorem shareRows_nil (w : World) : Calls Tryz.prog 65 #[.pointer none] w fun e w' => e = .returned (.slice none 0 0) ∧ w = w' := by
  go_enter Tryz.func65, Tryz.ntmps65
  go_wp2_with fail
  refine (shareOk_nil _).mono ?_
  rintro e w1 ⟨rfl, rfl⟩
  go_wp2_with fail
  go_ret
  exact ⟨rfl, rfl⟩
set_option maxRecDepth 100000 in
set_option maxHeartbeats 1000000 in
theorem shareLen_nil (w : World) : Calls Tryz.prog 33 #[.pointer none] w fun e w' => e = .returned (.int .i64 0) ∧ w = w' := by
  go_enter Tryz.func33, Tryz.ntmps33
  go_wp2_with fail
  refine (shareRows_nil _).mono ?_
  rintro e w1 ⟨rfl, rfl⟩
  go_wp2_with fail
  go_loopg [11, 3] 0 (fun _ i n wr => i = .int .i64 0 ∧ n = .int .i64 0 ∧ wr = w)
  case atStart => exact ⟨rfl, rfl, rfl⟩
  case round =>
    obtain ⟨rfl, rfl, rfl⟩ := hrel
    go_wp2_with fail
    go_ret
    exact ⟨rfl, rfl⟩
section
variable {ρ : Roles} {P : Nat} {x : PX} {next : Int} {v : Value} {L : List PN} {w w2 w3 : World}
/-- A class's share turned, in a call: what a caller sees. -/
def TurnPost (ρ : Roles) (w : World) (P : Nat) (x : PX) (next : Int) (v : Value) (L' : List PN) (w' : World) : Prop :=
  ∃ ρ', Later ρ ρ' w ∧ NewRoles ρ' [0] w.heap.size ∧ PoolAt ρ' w' P x next v L' ∧ Fp (Part ρ [0]) w w'
theorem turn_same (hS : PoolAt ρ w P x next v L) (hb : Below w.heap.size w w2) : TurnPost ρ w P x next v L w2 :=
  ⟨fence ρ w, fence_later ρ w, fun _ hk => .inl (fence_far hk), (hS.later (fence_later ρ w)).below hb, Fp.of_below hb⟩
theorem turn_class (hS : PoolAt ρ w P x next v L) {i k : Nat} {n : PN} {c : PC} (hn : L[i]? = some n) (hc : n.cls[k]? = some c) (hb : Below w.heap.size w w2) {ρ3 : Roles} {gv' : Bool} {rows' : List TRow} (hl : Later (fence ρ w) ρ3 w2) (hN : NewRoles ρ3 [0, 6, (c.blk : Int)] w2.heap.size) (hR : ShareAt [0, 6, (c.blk : Int)] ρ3 w3 c.f x.q gv' rows') (hF : Fp (Part (fence ρ w) [0, 6, (c.blk : Int)]) w2 w3) :
    TurnPost ρ w P x next v (L.set i { n with cls := n.cls.set k { c with gv := gv', rows := rows' } }) w3 := by
  have z12 := hb.size
  have z23 := hF.size
  have h2 := (hS.later (fence_later ρ w)).below hb
  refine ⟨fence ρ3 w3, fun k hk => ?_, fun k hk => ?_, (h2.turn hn hc hl hR hF).later (fence_later ρ3 w3), (Fp.of_below hb).trans hF (fun k hk ⟨t, e⟩ => ?_)⟩
  · rw [fence_later ρ3 w3 k (by omega), hl k (by omega), fence_later ρ w k hk]
  · rcases Nat.lt_or_ge k w3.heap.size with h3 | h3
    · have e3 : fence ρ3 w3 k = ρ3 k := fence_later ρ3 w3 k h3
      rcases Nat.lt_or_ge k w2.heap.size with h2 | h2
      · exact .inl (by rw [e3, hl k h2]; exact fence_far hk)
      · rcases hN k h2 with h4 | ⟨t, h4⟩
        · exact .inl (e3.trans h4)
        · exact .inr ⟨_, by rw [e3, h4]; exact List.append_assoc [0] [6, (c.blk : Int)] t⟩
    · exact .inl (fence_far h3)
  · exact ⟨_, by rw [← fence_later ρ w k hk, e]; exact List.append_assoc [0] [6, (c.blk : Int)] t⟩
set_option maxRecDepth 100000 in
set_option maxHeartbeats 2000000 in
/-- THE WALK: Push, no such need. -/
theorem ppush_none (E : Ent) (w : World) (hS : PoolAt ρ w P x next v L) (hO : PoolOk x L) (h : placeP E.need L = -1) :
    Calls Tryz.prog 11 #[.pointer (some ⟨P, 0, none⟩), entV E] w fun e w' => e = .returned (.int .i64 7) ∧ Below w.heap.size w w' := by
  have HS := Lib.hid (hS.below (box_below (o := .cells (entC E) 25)))
  have HO := Lib.hid hO
  have HH := Lib.hid h
  clear hS hO h
  unfold entV
  go_enter Tryz.func11, Tryz.ntmps11
  go_upto_region 1 with fail
  obtain ⟨w1, hw1⟩ : ∃ w1 : World, w1 = w.alloc (.cells (entC E) 25) := ⟨_, rfl⟩
  rw [← hw1] at HS
  rw [← hw1]
  have hb1 : w1.heap[w.heap.size]? = some (.cells (entC E) 25 (0, 0)) := by rw [hw1]; exact fr_alloc_at
  have HB1 := Lib.hid (show Below w.heap.size w w1 by rw [hw1]; exact box_below)
  have e0 : w1.cell? ⟨w.heap.size, 0, none⟩ = some (.string E.need) := fr_cell_of_heap hb1 rfl
  clear hw1 hb1
  go_wp2_with fail
  refine (pfind_any E.need _ HS.out HO.out.few).mono ?_
  rintro e w2 ⟨rfl, hb2⟩
  rw [HH.out]
  have HB2 := Lib.hid (HB1.out.trans (hb2.mono HB1.out.size))
  clear hb2 e0
  go_wp2_with fail
  go_ret
  exact ⟨rfl, HB2.out⟩
set_option maxRecDepth 100000 in
set_option maxHeartbeats 2000000 in
/-- THE WALK: Push, no such class. -/
theorem ppush_bad (E : Ent) (w : World) (hS : PoolAt ρ w P x next v L) (hO : PoolOk x L) (h : ¬ placeP E.need L < 0) (hk : E.cls < 0 ∨ (x.classes : Int) ≤ E.cls) :
    Calls Tryz.prog 11 #[.pointer (some ⟨P, 0, none⟩), entV E] w fun e w' => e = .returned (.int .i64 1) ∧ Below w.heap.size w w' := by
  have HS := Lib.hid (hS.below (box_below (o := .cells (entC E) 25)))
  have HO := Lib.hid hO
  have HK := Lib.hid hk
  clear hS hO hk
  unfold entV
  go_enter Tryz.func11, Tryz.ntmps11
  go_upto_region 1 with fail
  obtain ⟨w1, hw1⟩ : ∃ w1 : World, w1 = w.alloc (.cells (entC E) 25) := ⟨_, rfl⟩
  rw [← hw1] at HS
  rw [← hw1]
  have hb1 : w1.heap[w.heap.size]? = some (.cells (entC E) 25 (0, 0)) := by rw [hw1]; exact fr_alloc_at
  have HB1 := Lib.hid (show Below w.heap.size w w1 by rw [hw1]; exact box_below)
  have e0 : w1.cell? ⟨w.heap.size, 0, none⟩ = some (.string E.need) := fr_cell_of_heap hb1 rfl
  have HE1 := Lib.hid hb1
  clear hw1 hb1
  go_wp2_with fail
  refine (pfind_any E.need _ HS.out HO.out.few).mono ?_
  rintro e w2 ⟨rfl, hb2⟩
  have HB2 := Lib.hid (HB1.out.trans (hb2.mono HB1.out.size))
  have HS2 := Lib.hid (HS.out.below hb2)
  have he2 := (hb2.block _ (fp_lt_of_heap HE1.out)).trans HE1.out
  have e0 : w2.cell? ⟨w.heap.size, 0, none⟩ = some (.string E.need) := fr_cell_of_heap he2 rfl
  have e1 : w2.cell? ⟨w.heap.size, 1, none⟩ = some (.int .i64 E.cls) := fr_cell_of_heap he2 rfl
  clear hb2 he2
  go_wp2_with fail
  refine (pshare_none E.need E.cls _ HS2.out HO.out.few (.inr HK.out)).mono ?_
  rintro e w3 ⟨rfl, hb3⟩
  have HB3 := Lib.hid (HB2.out.trans (hb3.mono HB2.out.size))
  clear hb3 e0 e1
  go_wp2_with fail
  go_ret
  exact ⟨rfl, HB3.out⟩
set_option maxRecDepth 100000 in
set_option maxHeartbeats 2000000 in
/-- THE WALK: Push. -/
theorem ppush_some (E : Ent) (i k : Nat) (n : PN) (c : PC) (w : World) (hS : PoolAt ρ w P x next v L) (hO : PoolOk x L) (hp : placeP E.need L = i) (hn : L[i]? = some n) (hk : E.cls = k) (hc : n.cls[k]? = some c) (hten : I64 E.ten) (hinv : I64 E.inv) (hid : I64 E.id) (hf : totT c.rows < 1000000) (hlen : c.rows.length < 1000000) :
    Calls Tryz.prog 11 #[.pointer (some ⟨P, 0, none⟩), entV E] w fun e w' => e = .returned (.int .i64 (pushT E c.rows).1) ∧ TurnPost ρ w P x next v (L.set i { n with cls := n.cls.set k { c with rows := (pushT E c.rows).2 } }) w' := by
  have HS0 := Lib.hid hS
  have HS := Lib.hid ((hS.later (fence_later ρ w)).below (box_below (o := .cells (entC E) 25)))
  have HO := Lib.hid hO
  have HP := Lib.hid hp
  have HN := Lib.hid hn
  have HK := Lib.hid hk
  have HC := Lib.hid hc
  have HI := Lib.hid (And.intro hten (And.intro hinv hid))
  have HF := Lib.hid (And.intro hf hlen)
  clear hS hO hp hn hk hc hten hinv hid hf hlen
  unfold entV
  go_enter Tryz.func11, Tryz.ntmps11
  go_upto_region 1 with fail
  obtain ⟨w1, hw1⟩ : ∃ w1 : World, w1 = w.alloc (.cells (entC E) 25) := ⟨_, rfl⟩
  rw [← hw1] at HS
  rw [← hw1]
  have hb1 : w1.heap[w.heap.size]? = some (.cells (entC E) 25 (0, 0)) := by rw [hw1]; exact fr_alloc_at
  have HB1 := Lib.hid (show Below w.heap.size w w1 by rw [hw1]; exact box_below)
  have e0 : w1.cell? ⟨w.heap.size, 0, none⟩ = some (.string E.need) := fr_cell_of_heap hb1 rfl
  have HE1 := Lib.hid hb1
  clear hw1 hb1
  go_wp2_with fail
  refine (pfind_any E.need _ HS.out HO.out.few).mono ?_
  rintro e w2 ⟨rfl, hb2⟩
  rw [HP.out]
  have HB2 := Lib.hid (HB1.out.trans (hb2.mono HB1.out.size))
  have HS2 := Lib.hid (HS.out.below hb2)
  have he2 := (hb2.block _ (fp_lt_of_heap HE1.out)).trans HE1.out
  have HE2 := Lib.hid he2
  have e0 : w2.cell? ⟨w.heap.size, 0, none⟩ = some (.string E.need) := fr_cell_of_heap he2 rfl
  have e1 : w2.cell? ⟨w.heap.size, 1, none⟩ = some (.int .i64 k) := by rw [← HK.out]; exact fr_cell_of_heap he2 rfl
  clear hb2 he2
  go_wp2_with fail
  refine (pshare_some E.need i k n c _ HS2.out HO.out.few HP.out HN.out HC.out HO.out.cls).mono ?_
  rintro e w3 ⟨rfl, hb3⟩
  have HB3 := Lib.hid (HB2.out.trans (hb3.mono HB2.out.size))
  have HS3 := Lib.hid (HS2.out.below hb3)
  have HE3 := Lib.hid ((hb3.block _ (fp_lt_of_heap HE2.out)).trans HE2.out)
  clear hb3 e0 e1
  go_wp2_with (refine wpList_load_agg (cs := entC E) 25 HE3.out Tryz.underlying25 rfl (ent_sz E) rfl _ rfl rfl ?_)
  refine (sharePush_any (pre := [0, 6, (c.blk : Int)]) (ρ := Proofs.YtdbjihkgafhakaaGreatDoor.fence ρ w) (by simp) E _ ((HS3.out.need i n HN.out).cls k c HC.out).share HI.out.1 HI.out.2.1 HI.out.2.2 HF.out.1 HF.out.2).mono ?_
  rintro e w4 ⟨rfl, ρ4, hl4, hn4, hR4, hF4⟩
  have HT := Lib.hid (turn_class HS0.out HN.out HC.out HB3.out hl4 hn4 hR4 hF4)
  clear hl4 hn4 hR4 hF4
  go_wp2_with fail
  go_ret
  exact ⟨rfl, HT.out⟩
set_option maxRecDepth 100000 in
set_option maxHeartbeats 2000000 in
/-- THE WALK: Waits, where there is no such class. -/
theorem pwaits_none (s : ByteArray) (k : Int) (w : World) (hS : PoolAt ρ w P x next v L) (hO : PoolOk x L) (h : placeP s L = -1 ∨ k < 0 ∨ (x.classes : Int) ≤ k) :
    Calls Tryz.prog 13 #[.pointer (some ⟨P, 0, none⟩), .string s, .int .i64 k] w fun e w' => e = .returned (.int .i64 0) ∧ Below w.heap.size w w' := by
  have HS := Lib.hid hS
  have HO := Lib.hid hO
  have HH := Lib.hid h
  clear hS hO h
  go_enter Tryz.func13, Tryz.ntmps13
  go_wp2_with fail
  refine (pshare_none s k _ HS.out HO.out.few HH.out).mono ?_
  rintro e w1 ⟨rfl, hb1⟩
  have HB1 := Lib.hid hb1
  clear hb1
  go_wp2_with fail
  refine (shareLen_nil _).mono ?_
  rintro e w2 ⟨rfl, rfl⟩
  go_wp2_with fail
  go_ret
  exact ⟨rfl, HB1.out⟩
set_option maxRecDepth 100000 in
set_option maxHeartbeats 2000000 in
/-- THE WALK: Waits. -/
theorem pwaits_some (s : ByteArray) (i k : Nat) (n : PN) (c : PC) (w : World) (hS : PoolAt ρ w P x next v L) (hO : PoolOk x L) (hp : placeP s L = i) (hn : L[i]? = some n) (hc : n.cls[k]? = some c) :
    Calls Tryz.prog 13 #[.pointer (some ⟨P, 0, none⟩), .string s, .int .i64 k] w fun e w' => e = .returned (.int .i64 (totT c.rows)) ∧ Below w.heap.size w w' := by
  have HS := Lib.hid hS
  have HO := Lib.hid hO
  have HP := Lib.hid hp
  have HN := Lib.hid hn
  have HC := Lib.hid hc
  clear hS hO hp hn hc
  go_enter Tryz.func13, Tryz.ntmps13
  go_wp2_with fail
  refine (pshare_some s i k n c _ HS.out HO.out.few HP.out HN.out HC.out HO.out.cls).mono ?_
  rintro e w1 ⟨rfl, hb1⟩
  have HB1 := Lib.hid hb1
  have HS1 := Lib.hid (HS.out.below hb1)
  clear hb1
  go_wp2_with fail
  refine (shareLen_any _ ((HS1.out.need i n HN.out).cls k c HC.out).share (HO.out.tot n (List.mem_of_getElem? HN.out) c (List.mem_of_getElem? HC.out))).mono ?_
  rintro e w2 ⟨rfl, hb2⟩
  have HB2 := Lib.hid (HB1.out.trans (hb2.mono HB1.out.size))
  clear hb2
  go_wp2_with fail
  go_ret
  exact ⟨rfl, HB2.out⟩
end
end Go.Proofs.YtdbjihkgafhakaaGreatDoor
