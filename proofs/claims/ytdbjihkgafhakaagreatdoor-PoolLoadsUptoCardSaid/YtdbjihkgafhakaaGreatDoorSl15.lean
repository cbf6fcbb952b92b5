/-
 Whose turn it is: the plain law.
 Whose turn it is: what each call leaves of it.
 Whose turn it is: what a Take leaves of it.
 billetref04.Match: the walk.
 law17: pools in a law's walk; a call's texts' length: the walks.
 law17.live: the plain side.
 law17.live: the walk.
 law17: each call of pools, in a law's round.
 law17: Waits and Take, in a law's round.
-/
import Derived.Test.YtdbjihkgafhakaaGreatDoorSl14
import Derived.Test.YtdbjihkgafhakaaGreatDoorSl12
namespace Go.Proofs.YtdbjihkgafhakaaGreatDoor
def sv (L : List PN) : List Int := L.flatMap (fun n => n.cls.map PC.served)
theorem Zc9 (A B : List PN) : sv (A ++ B) = sv A ++ sv B := by simp [sv]
theorem Zig {α : Type} : ∀ {l : List α} {i : Nat} {x : α}, l[i]? = some x → ∃ A B, l = A ++ x :: B ∧ A.length = i ∧ ∀ y, l.set i y = A ++ y :: B
 | [], _, _, h => by simp at h
 | a :: l, 0, x, h => by
   simp at h
   subst h
   exact ⟨[], l, rfl, rfl, fun y => rfl⟩
 | a :: l, i + 1, x, h => by
   obtain ⟨A, B, h1, h2, h3⟩ := Zig (l := l) (i := i) (by simpa using h)
   exact ⟨a :: A, B, by rw [h1]; rfl, by simp [h2], fun y => by rw [List.set_cons_succ, h3]; rfl⟩
theorem ZnV {L : List PN} {i : Nat} {n : PN} {u : Int} (hn : L[i]? = some n) : sv (L.set i { n with uses := u }) = sv L := by
 obtain ⟨A, B, h1, _, h3⟩ := Zig hn
 rw [h3, h1, Zc9, Zc9]
 rfl
structure PInv (x : PX) (next : Int) (L : List PN) : Prop where
 few : (L.length : Int) ≤ x.pools
 len : ∀ n ∈ L, n.cls.length = x.classes
 low : ∀ s ∈ sv L, 0 ≤ s ∧ s < next
 once : (sv L).Nodup
 names : ∀ (i j : Nat) n m, L[i]? = some n → L[j]? = some m → n.name = m.name → i = j
 uses : ∀ n ∈ L, 1 ≤ n.uses
section
variable {x : PX} {next n : Int} {L L' : List PN} {s : ByteArray} {k : Int}
end
theorem Zne {α β : Type} (f : α → List β) {A B : List α} (h : A.Sublist B) : (A.flatMap f).Sublist (B.flatMap f) := by
 induction h with
 | slnil => exact List.Sublist.slnil
 | cons a _ ih =>
   rw [List.flatMap_cons]
   exact ih.trans (List.sublist_append_right _ _)
 | cons_cons a _ ih =>
   rw [List.flatMap_cons, List.flatMap_cons]
   exact (List.Sublist.refl _).append ih
section
variable {x : PX} {next next' n m : Int} {L L' : List PN} {s : ByteArray} {k : Int}
theorem ZlU (hp : PInv x next L) {i : Nat} {a a' : PN} (ha : L[i]? = some a) (hn : a'.name = a.name) : ∀ (i' j' : Nat) p q, (L.set i a')[i']? = some p → (L.set i a')[j']? = some q → p.name = q.name → i' = j' := by
 have key : ∀ (i' : Nat) p, (L.set i a')[i']? = some p → ∃ p', L[i']? = some p' ∧ p.name = p'.name := fun i' p h => by
  by_cases e : i = i'
  ·subst e
   rw [List.getElem?_set_self (List.getElem?_eq_some_iff.1 ha).1] at h
   cases h
   exact ⟨a, ha, hn⟩
  ·rw [List.getElem?_set_ne e] at h
   exact ⟨p, h, rfl⟩
 intro i' j' p q h1 h2 e
 obtain ⟨p', g1, e1⟩ := key i' p h1
 obtain ⟨q', g2, e2⟩ := key j' q h2
 exact hp.names i' j' p' q' g1 g2 (by rw [← e1, ← e2, e])
theorem Zao {i : Nat} {a' p : PN} (h : p ∈ L.set i a') : p ∈ L ∨ p = a' := by
 obtain ⟨j, hj⟩ := List.getElem?_of_mem h
 by_cases e : i = j
 ·subst e
  have hlt : i < L.length := by have := (List.getElem?_eq_some_iff.1 hj).1; rwa [List.length_set] at this
  rw [List.getElem?_set_self hlt] at hj
  cases hj
  exact .inr rfl
 ·rw [List.getElem?_set_ne e] at hj
  exact .inl (List.mem_of_getElem? hj)
theorem ZlV (hp : PInv x next L) {i : Nat} {a : PN} {u : Int} (ha : L[i]? = some a) (hu : 1 ≤ u) : PInv x next (L.set i { a with uses := u }) := by
 have ham := List.mem_of_getElem? ha
 have hsv := ZnV (u := u) ha
 refine ⟨by rw [List.length_set]; exact hp.few, fun p hm => ?_, by rw [hsv]; exact hp.low, by rw [hsv]; exact hp.once, ZlU hp ha rfl, fun p hm => ?_⟩
 ·rcases Zao hm with h | rfl
  ·exact hp.len p h
  ·exact hp.len a ham
 ·rcases Zao hm with h | rfl
  ·exact hp.uses p h
  ·exact hu
theorem ZlW (hp : PInv x next L) (i : Nat) : PInv x next (L.eraseIdx i) := by
 have hmem : ∀ {p}, p ∈ L.eraseIdx i → p ∈ L := fun h => List.mem_of_mem_eraseIdx h
 have hsub : (sv (L.eraseIdx i)).Sublist (sv L) := by
  unfold sv
  exact Zne _ (List.eraseIdx_sublist L i)
 refine ⟨?_, fun p h => hp.len p (hmem h), fun t ht => hp.low t (hsub.subset ht), hp.once.sublist hsub, fun i' j' p q h1 h2 e => ?_, fun p h => hp.uses p (hmem h)⟩
 ·have h1 := (List.eraseIdx_sublist L i).length_le
  have h2 := hp.few
  omega
 ·have key : ∀ (t : Nat) p, (L.eraseIdx i)[t]? = some p → L[if t < i then t else t + 1]? = some p := fun t p h => by
   rw [List.getElem?_eraseIdx] at h
   by_cases e : t < i
   ·rw [if_pos e] at h ⊢
    exact h
   ·rw [if_neg e] at h ⊢
    exact h
  have h3 := hp.names _ _ p q (key i' p h1) (key j' q h2) e
  split at h3 <;> split at h3 <;> omega
end
section
variable {most : Int} {pl : ByteArray} {b : Option PB}
end
section
variable {x : PX} {next n m most : Int} {L : List PN} {s pl : ByteArray} {k : Int} {y : PB} {row : TRow} {rest : List TRow}
end
open Go.RowKit
theorem Znf {l : List Pr} {k : ByteArray} {q : Pr} (h : l.find? (keyB k) = some q) : findV l k = q.2 := (Zew h).1
set_option maxRecDepth 100000 in
set_option maxHeartbeats 1000000 in
theorem Zju (s t : ByteArray) (w : World) (hs : s.size ≤ 1048576) (ht : t.size ≤ 1048576) (h0 : Z3 s ≠ 0) :
 Calls Tryz.prog 15 #[.string s, .string t] w fun e w' => e = .returned (.bool (Z0 s t)) ∧ Below w.heap.size w w' := by
 have HV := Lib.hid (show Z0 s t = false by unfold Z0; simp [h0])
 have hne : (Z3 s != 0) = true := by rw [bne_iff_ne]; exact h0
 have HE1 := Lib.hid (show (Zn s).2 = Z3 s from rfl)
 have HE2 := Lib.hid (show (Zn t).2 = Z3 t from rfl)
 clear h0
 go_enter Tryz.func15, Tryz.ntmps15
 go_wp2_with fail
 refine (ZbK s _ hs).mono ?_
 rintro e w1 ⟨v1, rfl, hown1, hb1⟩
 rw [HE1.out]
 have HB1 := Lib.hid hb1
 clear hb1 hown1
 go_wp2_with fail
 refine (ZbK t _ ht).mono ?_
 rintro e w2 ⟨v2, rfl, hown2, hb2⟩
 rw [HE2.out]
 have HB2 := Lib.hid (HB1.out.trans (hb2.mono HB1.out.size))
 clear hb2 hown2
 go_wp2
 go_ret
 rw [HV.out]
 exact ⟨rfl, HB2.out⟩
set_option maxRecDepth 100000 in
set_option maxHeartbeats 1000000 in
theorem Zjv (s t : ByteArray) (w : World) (hs : s.size ≤ 1048576) (ht : t.size ≤ 1048576) (h0 : Z3 s = 0) (h1 : Z3 t ≠ 0) :
 Calls Tryz.prog 15 #[.string s, .string t] w fun e w' => e = .returned (.bool (Z0 s t)) ∧ Below w.heap.size w w' := by
 have HV := Lib.hid (show Z0 s t = false by unfold Z0; simp [h1])
 have hne : (Z3 t != 0) = true := by rw [bne_iff_ne]; exact h1
 have HE1 := Lib.hid (show (Zn s).2 = 0 from h0)
 have HE2 := Lib.hid (show (Zn t).2 = Z3 t from rfl)
 clear h0 h1
 go_enter Tryz.func15, Tryz.ntmps15
 go_wp2_with fail
 refine (ZbK s _ hs).mono ?_
 rintro e w1 ⟨v1, rfl, hown1, hb1⟩
 rw [HE1.out]
 have HB1 := Lib.hid hb1
 clear hb1 hown1
 go_wp2_with fail
 refine (ZbK t _ ht).mono ?_
 rintro e w2 ⟨v2, rfl, hown2, hb2⟩
 rw [HE2.out]
 have HB2 := Lib.hid (HB1.out.trans (hb2.mono HB1.out.size))
 clear hb2 hown2
 go_wp2
 go_ret
 rw [HV.out]
 exact ⟨rfl, HB2.out⟩
set_option maxRecDepth 100000 in
set_option maxHeartbeats 2000000 in
theorem Zjw (s t : ByteArray) (w : World) (hs : s.size ≤ 1048576) (ht : t.size ≤ 1048576) (h0 : Z3 s = 0) (h1 : Z3 t = 0) :
 Calls Tryz.prog 15 #[.string s, .string t] w fun e w' => e = .returned (.bool (Z0 s t)) ∧ Below w.heap.size w w' := by
 have HM2 := Lib.hid (ZcU ht)
 have h6 := Zb7 s
 have h7 := Zb7 t
 have HV := Lib.hid (show Z0 s t = (Zn t).1.all (Zav (Zn s).1) by unfold Z0; simp [h0, h1])
 have HE1 := Lib.hid (show (Zn s).2 = 0 from h0)
 have HE2 := Lib.hid (show (Zn t).2 = 0 from h1)
 clear h0 h1
 go_enter Tryz.func15, Tryz.ntmps15
 go_wp2_with fail
 refine (ZbK s _ hs).mono ?_
 rintro e w1 ⟨v1, rfl, hown1, hb1⟩
 rw [HE1.out]
 have HB1 := Lib.hid hb1
 have HO1 := Lib.hid hown1
 clear hb1 hown1
 go_wp2_with fail
 refine (ZbK t _ ht).mono ?_
 rintro e w2 ⟨v2, rfl, hown2, hb2⟩
 rw [HE2.out]
 have HB2 := Lib.hid (HB1.out.trans (hb2.mono HB1.out.size))
 have HA1 := Lib.hid ((Zbu HO1.out).below hb2)
 have HA2 := Lib.hid (Zbu hown2)
 clear hb2 hown2 HO1
 generalize hl1 : (Zn s).1 = l1 at *
 generalize hl2 : (Zn t).1 = l2 at *
 clear hl1 hl2
 obtain ⟨a1, cap1, rfl, hcap1, hmax1, hcell1⟩ := id HA1.out
 obtain ⟨a2, cap2, rfl, hcap2, hmax2, hcell2⟩ := id HA2.out
 have HC2 := Lib.hid hcell2
 clear hcell1 hcell2
 go_wp2_with fail
 go_loop [9] (fun i => ∃ k : Nat, i = .int .i64 k ∧ k ≤ l2.length ∧ (l2.take k).all (Zav l1) = true) (fun i => l2.length - (intOf i).toNat)
 case atStart => exact ⟨0, rfl, Nat.zero_le _, by simp⟩
 case round =>
  obtain ⟨k, rfl, hk2, hall⟩ := hrel
  have HA := Lib.hid hall
  clear hall
  by_cases hlt : k < l2.length
  ·obtain ⟨p, hp⟩ : ∃ p, l2[k]? = some p := ⟨_, List.getElem?_eq_getElem hlt⟩
   obtain ⟨g, rfl, hgl, c0⟩ := HC2.out (k * 2) (.string p.1) (by have := ZaH 0 hp (by omega); simpa [encP] using this)
   obtain ⟨g', hg', -, c1⟩ := HC2.out (k * 2 + 1) (.string p.2) (by have := ZaH 1 hp (by omega); simpa [encP] using this)
   cases hg'
   obtain ⟨hs0, hs1⟩ := ZcA HM2.out hp
   have HQ := Lib.hid hp
   clear hp
   go_wp2_with fail
   refine (Zex _ l1 p.1 _ HA1.out).mono ?_
   rintro e w5 ⟨rfl, rfl⟩
   rcases hh : Zah l1 p.1 with _ | _
   ·have HF := Lib.hid (ZeU HQ.out (Zfq hh))
    go_wp2
    go_ret
    rw [HV.out, HF.out]
    exact ⟨rfl, HB2.out⟩
   ·obtain ⟨q, hq, hok⟩ := Zfr hh
    have HK := Lib.hid (Znf hq)
    have e1 : (q.2.data.toList == p.2.data.toList) = (q.2.toList == p.2.toList) := by rw [ByteArray.toList_eq, ByteArray.toList_eq]
    have e2 : (q.2.data.toList == [42]) = (q.2.toList == [42]) := by rw [ByteArray.toList_eq]
    have e3 : (p.2.data.toList == [42]) = (p.2.toList == [42]) := by rw [ByteArray.toList_eq]
    rw [e1, e2, e3] at hok
    have HOK := Lib.hid hok
    rw [HK.out]
    clear e1 e2 e3 hok hq
    rcases b1 : (q.2.toList == p.2.toList) with _ | _
    ·rcases b2 : (q.2.toList == [42]) with _ | _
     ·rcases b3 : (p.2.toList == [42]) with _ | _
      ·have HF := Lib.hid (ZeU HQ.out (show Zav l1 p = false by rw [HOK.out, b1, b2, b3]; rfl))
       go_wp2
       go_ret
       rw [HV.out, HF.out]
       exact ⟨rfl, HB2.out⟩
      ·have HF := Lib.hid (Za6 HA.out HQ.out (show Zav l1 p = true by rw [HOK.out, b1, b2, b3]; simp))
       go_wp2
       go_round
       case rel => exact ⟨k + 1, by go_num, by omega, HF.out⟩
       case measure => simp [intOf]; omega
     ·have HF := Lib.hid (Za6 HA.out HQ.out (show Zav l1 p = true by rw [HOK.out, b1, b2]; simp))
      go_wp2
      go_round
      case rel => exact ⟨k + 1, by go_num, by omega, HF.out⟩
      case measure => simp [intOf]; omega
    ·have HF := Lib.hid (Za6 HA.out HQ.out (show Zav l1 p = true by rw [HOK.out, b1]; simp))
     go_wp2
     go_round
     case rel => exact ⟨k + 1, by go_num, by omega, HF.out⟩
     case measure => simp [intOf]; omega
  ·have HF := Lib.hid (show l2.all (Zav l1) = true by have h := HA.out; rwa [List.take_of_length_le (by omega)] at h)
   go_wp2
   go_ret
   rw [HV.out, HF.out]
   exact ⟨rfl, HB2.out⟩
theorem ZkI (s t : ByteArray) (w : World) (hs : s.size ≤ 1048576) (ht : t.size ≤ 1048576) :
 Calls Tryz.prog 15 #[.string s, .string t] w fun e w' => e = .returned (.bool (Z0 s t)) ∧ Below w.heap.size w w' := by
 by_cases h0 : Z3 s = 0
 ·by_cases h1 : Z3 t = 0
  ·exact Zjw s t w hs ht h0 h1
  ·exact Zjv s t w hs ht h0 h1
 ·exact Zju s t w hs ht h0
structure PlState (W : World) (P : Nat) (x : PX) (next : Int) (v : Value) (L : List PN) (ρ : Roles) (wr : World) : Prop where
 pool : PoolAt ρ wr P x next v L
 below : Below W.heap.size W wr
 old : ∀ j, j < W.heap.size → ρ j = []
section
variable {W wr w' : World} {P : Nat} {x : PX} {next next' : Int} {v v' : Value} {L L' : List PN} {ρ ρ' : Roles}
theorem PlState.on (h : PlState W P x next v L ρ wr) (hb : Below wr.heap.size wr w') : PlState W P x next v L ρ w' := ⟨h.pool.below hb, h.below.trans (hb.mono h.below.size), h.old⟩
theorem PlState.step (h : PlState W P x next v L ρ wr) (hl : Later ρ ρ' wr) (hp : PoolAt ρ' w' P x next' v' L') (hF : Fp (Part ρ [0]) wr w') : PlState W P x next' v' L' ρ' w' :=
 ⟨hp, h.below.trans (hF.below h.below.size (fun j hj ⟨t, e⟩ => by rw [h.old j hj] at e; simp at e)), fun j hj => (hl j (Nat.lt_of_lt_of_le hj h.below.size)).trans (h.old j hj)⟩
theorem PlState.fence (h : PlState W P x next v L ρ wr) : PlState W P x next v L (fence ρ wr) wr :=
 ⟨h.pool.later (Zg ρ wr), h.below, fun j hj => (Zg ρ wr j (Nat.lt_of_lt_of_le hj h.below.size)).trans (h.old j hj)⟩
theorem pkeep (hF : Fp (Part ρ [0]) wr w') {b : Nat} {o : Obj} (hb : wr.heap[b]? = some o) (hr : ρ b = []) : w'.heap[b]? = some o := hF.heap hb (fun ⟨t, e⟩ => by rw [hr] at e; simp at e)
end
set_option maxRecDepth 100000 in
set_option maxHeartbeats 1000000 in
theorem ZbG (e : Int) (w : World) : Calls Tryz.prog 26 #[.int .i64 e] w fun v w' => v = .returned (.int .i64 e) ∧ w = w' := by
 go_enter Tryz.func26, Tryz.ntmps26
 go_wp2
 go_ret
 exact ⟨rfl, rfl⟩
structure Pa where
 kind : Int
 e : Ent
 plat : ByteArray
def encPa (a : Pa) : List Value := [.int .i64 a.kind, .string a.e.need, .int .i64 a.e.cls, .int .i64 a.e.ten, .int .i64 a.e.tw, .int .i64 a.e.inv, .int .i64 a.e.iw, .int .i64 a.e.id, .int .i64 a.e.cost, .string a.plat]
def paC (a : Pa) : Array Value := #[.int .i64 a.kind, .string a.e.need, .int .i64 a.e.cls, .int .i64 a.e.ten, .int .i64 a.e.tw, .int .i64 a.e.inv, .int .i64 a.e.iw, .int .i64 a.e.id, .int .i64 a.e.cost, .string a.plat]
theorem Zod (a : Pa) : (Tryz.prog.info? 27).map (·.size) = some (encPa a).length := by
 rw [show (encPa a).length = 10 from rfl]
 kernel_rfl
def longB (a : Pa) : Bool := decide (200 < (a.e.need.size : Int)) || decide (200 < (a.plat.size : Int))
set_option maxRecDepth 100000 in
set_option maxHeartbeats 2000000 in
theorem ZkJ (a : Pa) (w : World) : Calls Tryz.prog 7 #[.agg (paC a)] w fun e w' => e = .returned (.bool (longB a)) ∧ Below w.heap.size w w' := by
 unfold paC
 by_cases g1 : 200 < (a.e.need.size : Int)
 ·have HV := Lib.hid (show longB a = true by unfold longB; rw [decide_eq_true g1]; rfl)
  go_enter Tryz.func7, Tryz.ntmps7
  go_wp2_with fail
  go_ret
  exact ⟨by rw [HV.out]; rfl, box_below⟩
 ·have HV := Lib.hid (show longB a = decide (200 < (a.plat.size : Int)) by unfold longB; rw [decide_eq_false g1]; rfl)
  go_enter Tryz.func7, Tryz.ntmps7
  go_wp2_with fail
  go_ret
  refine ⟨?_, box_below⟩
  rw [HV.out]
  rfl
theorem ZnW (row : FRow) (rest : List FRow) : totR (row :: rest) ≤ totR (tookR row rest).2 + 1 := by
 unfold tookR withR
 split
 ·rename_i h
  have h1 : row.its.length ≤ 1 := by
   have := congrArg List.length h
   simp at this
   omega
  simp [totR]
  omega
 ·simp [totR]
  omega
theorem Zng (s : Bool × List FRow) : totR s.2 ≤ totR (tookA s).2 + 1 := by
 unfold tookA
 split
 ·rename_i r rs h
  rw [h]
  exact ZnW r rs
 ·exact Nat.le_succ _
theorem ZcX (row : TRow) (rest : List TRow) : totT (row :: rest) ≤ totT (tookT row rest).2 + 1 := by
 have h1 := Zng (row.gv, row.rows)
 unfold tookT withT
 split
 ·rename_i h
  change (tookA (row.gv, row.rows)).2 = [] at h
  rw [h] at h1
  simp [totT, totR] at h1 ⊢
  omega
 ·simp [totT]
  simp only at h1
  omega
def livE (id : Int) (c : Int) : Ent := ⟨⟨#[]⟩, c, 0, 1, 0, 1, id, 1⟩
def liv0 : Nat → List TRow
 | 0 => []
 | 1 => []
 | 2 => (pushT (livE 2 0) []).2
 | 3 => (pushT (livE 2 0) []).2
 | _ => (pushT (livE 4 0) (pushT (livE 2 0) []).2).2
def liv1 : Nat → List TRow
 | 0 => []
 | 1 => (pushT (livE 1 1) []).2
 | 2 => (pushT (livE 1 1) []).2
 | _ => (pushT (livE 3 1) (pushT (livE 1 1) []).2).2
theorem Zj4 : totT (liv0 4) = 2 ∧ totT (liv1 4) = 2 := by decide
theorem ZdU : (pushT (livE 1 1) (liv1 0)).1 = 0 ∧ (pushT (livE 2 0) (liv0 1)).1 = 0 ∧ (pushT (livE 3 1) (liv1 2)).1 = 0 ∧ (pushT (livE 4 0) (liv0 3)).1 = 0 := by decide
structure OneN (L : List PN) (a b : Int) (r0 r1 : List TRow) (nn : PN) (c0 c1 : PC) : Prop where
 L : L = [nn]
 name : nn.name = ⟨#[]⟩
 uses : nn.uses = 2
 cls : nn.cls = [c0, c1]
 s0 : c0.served = a
 s1 : c1.served = b
 w0 : c0.rows = r0
 w1 : c1.rows = r1
theorem Zg5 : Z0 ⟨#[]⟩ ⟨#[]⟩ = true := by decide
theorem ZfF {L : List PN} {a b : Int} {r0 r1 : List TRow} {nn : PN} {c0 c1 : PC} (h : OneN L a b r0 r1 nn c0 c1) (h0 : 0 < totT r0) (h1 : 0 < totT r1) : ZJ 1 ⟨#[]⟩ L L.length = some (if b < a then ⟨0, nn, 1, c1⟩ else ⟨0, nn, 0, c0⟩) := by
 rw [h.L]
 have e1 : ZJ 1 ⟨#[]⟩ [nn] [nn].length = ZP 1 ⟨#[]⟩ 0 nn none 2 := by
  show ZJ 1 ⟨#[]⟩ [nn] (0 + 1) = _
  rw [ZbS (n := nn) rfl, h.cls]
  rfl
 rw [e1, Zbv (c := c1) (by rw [h.cls]; rfl), Zbv (c := c0) (by rw [h.cls]; rfl)]
 have f0 : stepB 1 ⟨#[]⟩ (ZP 1 ⟨#[]⟩ 0 nn none 0) ⟨0, nn, 0, c0⟩ = some ⟨0, nn, 0, c0⟩ := by
  unfold stepB
  refine if_pos ?_
  show fitB 1 ⟨#[]⟩ none ⟨0, nn, 0, c0⟩ = true
  unfold fitB Za7
  simp [h.name, Zg5, h.w0, h0]
 rw [f0]
 unfold stepB fitB Za7
 simp only [h.name, Zg5, h.w1, h.s0, h.s1]
 by_cases hb : b < a
 ·simp [h1, hb]
 ·simp [hb]
theorem Zb3 {nn : PN} {s : ByteArray} (h : nn.name = s) : ZR s [nn] = ((0 : Nat) : Int) := by
 refine Zg0 (x := nn) rfl ?_ (fun j y hj => absurd hj (Nat.not_lt_zero _))
 unfold eqS
 rw [h]
 simp
theorem ZeA {L : List PN} {a b : Int} {r0 r1 : List TRow} {nn : PN} {c0 c1 : PC} (h : OneN L a b r0 r1 nn c0 c1) (h0 : totT r0 ≤ 1000) (h1 : totT r1 ≤ 1000) : PoolOk ⟨1, 2, 1⟩ L := by
 refine ⟨by rw [h.L]; show 1 ≤ 1000000; decide, by decide, fun n hn => ?_, fun n hn c hc => ?_⟩
 ·rw [h.L, List.mem_singleton] at hn
  rw [hn, h.name]
  decide
 ·rw [h.L, List.mem_singleton] at hn
  rw [hn, h.cls] at hc
  rcases List.mem_cons.1 hc with rfl | hc
  ·rw [h.w0]
   omega
  ·rw [List.mem_singleton] at hc
   rw [hc, h.w1]
   omega
theorem ZdV {L : List PN} {a b a' : Int} {r0 r1 r : List TRow} {nn : PN} {c0 c1 c' : PC} (h : OneN L a b r0 r1 nn c0 c1) (hs : c'.served = a') (hr : c'.rows = r) : OneN (L.set 0 { nn with cls := nn.cls.set 0 c' }) a' b r r1 { nn with cls := nn.cls.set 0 c' } c' c1 :=
 ⟨by rw [h.L]; rfl, h.name, h.uses, by show nn.cls.set 0 c' = _; rw [h.cls]; rfl, hs, h.s1, hr, h.w1⟩
theorem ZfG {L : List PN} {a b b' : Int} {r0 r1 r : List TRow} {nn : PN} {c0 c1 c' : PC} (h : OneN L a b r0 r1 nn c0 c1) (hs : c'.served = b') (hr : c'.rows = r) : OneN (L.set 0 { nn with cls := nn.cls.set 1 c' }) a b' r0 r { nn with cls := nn.cls.set 1 c' } c0 c' :=
 ⟨by rw [h.L]; rfl, h.name, h.uses, by show nn.cls.set 1 c' = _; rw [h.cls]; rfl, h.s0, hs, h.w0, hr⟩
theorem Zj5 (k : Nat) : totT (liv0 k) ≤ 1000 ∧ totT (liv1 k) ≤ 1000 := by
 match k with
 | 0 => decide
 | 1 => decide
 | 2 => decide
 | 3 => decide
 | k + 4 => exact ⟨by show totT (liv0 4) ≤ 1000; decide, by show totT (liv1 4) ≤ 1000; decide⟩
set_option maxRecDepth 100000 in
set_option maxHeartbeats 8000000 in
theorem ZkK (w : World) (hr : Ready w) : Calls Tryz.prog 8 #[] w (Zc2 w) := by
 have HR := Lib.hid hr
 clear hr
 go_enter Tryz.func8, Tryz.ntmps8
 go_wp2_with fail
 refine (ZfE 1 1 2 w (by decide) (by decide) (by decide) (by decide)).mono ?_
 rintro e w1 ⟨rfl, hb1, hp1⟩
 have HP1 := Lib.hid (show PlState w (w.heap.size + 2) ⟨1, 2, 1⟩ 0 (.slice none 0 0) [] (ZcV w) w1 from ⟨hp1, hb1, fun j hj => by simp [ZcV]; omega⟩)
 clear hb1 hp1
 obtain ⟨P, hP⟩ : ∃ P : Nat, P = w.heap.size + 2 := ⟨_, rfl⟩
 rw [← hP] at HP1
 rw [← hP]
 clear hP
 go_wp2_with fail
 refine (ZkH ⟨#[]⟩ w1 HP1.out.pool ⟨by decide, by decide, (fun n hn => by cases hn), (fun n hn => by cases hn)⟩ rfl (by decide) (by decide) (by decide) (by decide)).mono ?_
 rintro e w2 ⟨rfl, v2, nb, nn, hnew, hlen, ρ2, hl2, hn2, hp2, hF2⟩
 have HP2 := Lib.hid (HP1.out.step hl2 hp2 hF2)
 obtain ⟨c0, c1, hcl⟩ : ∃ c0 c1, nn.cls = [c0, c1] := by
  match nn.cls, hlen with
  | [c0, c1], _ => exact ⟨c0, c1, rfl⟩
 have HN := Lib.hid (And.intro hnew hcl)
 have HOK2 := Lib.hid (show PoolOk ⟨1, 2, 1⟩ ([] ++ [nn]) from ⟨by show 1 ≤ 1000000; decide, by decide, (fun n hn => by rw [List.nil_append, List.mem_singleton] at hn; rw [hn, hnew.1]; decide), (fun n hn c hc => by
  rw [List.nil_append, List.mem_singleton] at hn
  rw [hn] at hc
  obtain ⟨j, hj⟩ := List.getElem?_of_mem hc
  rw [(hnew.2.2.2 j c hj).2.2]
  decide)⟩)
 clear hl2 hn2 hp2 hF2 hnew hcl hlen
 go_wp2_with fail
 refine (ZkG ⟨#[]⟩ 0 nn w2 HP2.out.pool HOK2.out (Zb3 HN.out.1.1) rfl (by rw [HN.out.1.2.1]; decide)).mono ?_
 rintro e w3 ⟨rfl, ρ3, hl3, hn3, hp3, hF3⟩
 have HP3 := Lib.hid (HP2.out.step hl3 hp3 hF3)
 have HO3 := Lib.hid (show OneN ([nn].set 0 { nn with uses := nn.uses + 1 }) 0 1 (liv0 0) (liv1 0) { nn with uses := nn.uses + 1 } c0 c1 from
  ⟨rfl, HN.out.1.1, by show nn.uses + 1 = 2; rw [HN.out.1.2.1]; rfl, HN.out.2, by have h := (HN.out.1.2.2.2 0 c0 (by rw [HN.out.2]; rfl)).1; simpa using h, by have h := (HN.out.1.2.2.2 1 c1 (by rw [HN.out.2]; rfl)).1; simpa using h, (HN.out.1.2.2.2 0 c0 (by rw [HN.out.2]; rfl)).2.2, (HN.out.1.2.2.2 1 c1 (by rw [HN.out.2]; rfl)).2.2⟩)
 clear hl3 hn3 hp3 hF3
 go_wp2_with fail
 go_loopg [4] 4 (fun g i wr => ∃ (k : Nat) (v : Value) (L : List PN) (nn : PN) (c0 c1 : PC) (ρ : Roles), g = 4 - k ∧ i = .int .i64 ((k : Int) + 1) ∧ k ≤ 4 ∧ OneN L 0 1 (liv0 k) (liv1 k) nn c0 c1 ∧ PlState w P ⟨1, 2, 1⟩ (0 + 2) v L ρ wr)
 case atStart => exact ⟨0, _, _, _, _, _, _, rfl, rfl, by decide, HO3.out, HP3.out⟩
 case round =>
  obtain ⟨k, v, L, nn, c0, c1, ρ, hg, rfl, hk, hO, hP⟩ := hrel
  have HG := Lib.hid hg
  have HO := Lib.hid hO
  have HP := Lib.hid hP
  have HOK := Lib.hid (ZeA hO (Zj5 k).1 (Zj5 k).2)
  clear hg hO hP
  obtain rfl | rfl | rfl | rfl | rfl : k = 0 ∨ k = 1 ∨ k = 2 ∨ k = 3 ∨ k = 4 := by omega
  ·go_wp2_with fail
   refine (ZcI (livE 1 1) 0 1 nn c1 wr HP.out.pool HOK.out (by rw [HO.out.L]; exact Zb3 HO.out.name) (by rw [HO.out.L]; rfl) rfl (by rw [HO.out.cls]; rfl) (by unfold I64; decide) (by unfold I64; decide) (by unfold I64; decide) (by rw [HO.out.w1]; decide) (by rw [HO.out.w1]; decide)).mono ?_
   rintro e w4 ⟨rfl, ρ4, hl4, hn4, hp4, hF4⟩
   rw [show (pushT (livE 1 1) c1.rows).1 = 0 by rw [HO.out.w1]; exact ZdU.1]
   have HP4 := Lib.hid (HP.out.step hl4 hp4 hF4)
   have HO4 := Lib.hid (ZfG (c' := { c1 with rows := (pushT (livE 1 1) c1.rows).2 }) HO.out (HO.out.s1) (show (pushT (livE 1 1) c1.rows).2 = liv1 1 by rw [HO.out.w1]; rfl))
   clear hl4 hn4 hp4 hF4
   go_wp2_with fail
   refine (ZbG _ _).mono ?_
   rintro e w5 ⟨rfl, rfl⟩
   go_wp2_with fail
   go_roundg (4 - (0 + 1))
   case rel => exact ⟨1, _, _, _, _, _, _, rfl, rfl, by decide, HO4.out, HP4.out⟩
   case measure => have := HG.out; omega
  ·go_wp2_with fail
   refine (ZcI (livE 2 0) 0 0 nn c0 wr HP.out.pool HOK.out (by rw [HO.out.L]; exact Zb3 HO.out.name) (by rw [HO.out.L]; rfl) rfl (by rw [HO.out.cls]; rfl) (by unfold I64; decide) (by unfold I64; decide) (by unfold I64; decide) (by rw [HO.out.w0]; decide) (by rw [HO.out.w0]; decide)).mono ?_
   rintro e w4 ⟨rfl, ρ4, hl4, hn4, hp4, hF4⟩
   rw [show (pushT (livE 2 0) c0.rows).1 = 0 by rw [HO.out.w0]; exact ZdU.2.1]
   have HP4 := Lib.hid (HP.out.step hl4 hp4 hF4)
   have HO4 := Lib.hid (ZdV (c' := { c0 with rows := (pushT (livE 2 0) c0.rows).2 }) HO.out (HO.out.s0) (show (pushT (livE 2 0) c0.rows).2 = liv0 2 by rw [HO.out.w0]; rfl))
   clear hl4 hn4 hp4 hF4
   go_wp2_with fail
   refine (ZbG _ _).mono ?_
   rintro e w5 ⟨rfl, rfl⟩
   go_wp2_with fail
   go_roundg (4 - (1 + 1))
   case rel => exact ⟨2, _, _, _, _, _, _, rfl, rfl, by decide, HO4.out, HP4.out⟩
   case measure => have := HG.out; omega
  ·go_wp2_with fail
   refine (ZcI (livE 3 1) 0 1 nn c1 wr HP.out.pool HOK.out (by rw [HO.out.L]; exact Zb3 HO.out.name) (by rw [HO.out.L]; rfl) rfl (by rw [HO.out.cls]; rfl) (by unfold I64; decide) (by unfold I64; decide) (by unfold I64; decide) (by rw [HO.out.w1]; decide) (by rw [HO.out.w1]; decide)).mono ?_
   rintro e w4 ⟨rfl, ρ4, hl4, hn4, hp4, hF4⟩
   rw [show (pushT (livE 3 1) c1.rows).1 = 0 by rw [HO.out.w1]; exact ZdU.2.2.1]
   have HP4 := Lib.hid (HP.out.step hl4 hp4 hF4)
   have HO4 := Lib.hid (ZfG (c' := { c1 with rows := (pushT (livE 3 1) c1.rows).2 }) HO.out (HO.out.s1) (show (pushT (livE 3 1) c1.rows).2 = liv1 3 by rw [HO.out.w1]; rfl))
   clear hl4 hn4 hp4 hF4
   go_wp2_with fail
   refine (ZbG _ _).mono ?_
   rintro e w5 ⟨rfl, rfl⟩
   go_wp2_with fail
   go_roundg (4 - (2 + 1))
   case rel => exact ⟨3, _, _, _, _, _, _, rfl, rfl, by decide, HO4.out, HP4.out⟩
   case measure => have := HG.out; omega
  ·go_wp2_with fail
   refine (ZcI (livE 4 0) 0 0 nn c0 wr HP.out.pool HOK.out (by rw [HO.out.L]; exact Zb3 HO.out.name) (by rw [HO.out.L]; rfl) rfl (by rw [HO.out.cls]; rfl) (by unfold I64; decide) (by unfold I64; decide) (by unfold I64; decide) (by rw [HO.out.w0]; decide) (by rw [HO.out.w0]; decide)).mono ?_
   rintro e w4 ⟨rfl, ρ4, hl4, hn4, hp4, hF4⟩
   rw [show (pushT (livE 4 0) c0.rows).1 = 0 by rw [HO.out.w0]; exact ZdU.2.2.2]
   have HP4 := Lib.hid (HP.out.step hl4 hp4 hF4)
   have HO4 := Lib.hid (ZdV (c' := { c0 with rows := (pushT (livE 4 0) c0.rows).2 }) HO.out (HO.out.s0) (show (pushT (livE 4 0) c0.rows).2 = liv0 4 by rw [HO.out.w0]; rfl))
   clear hl4 hn4 hp4 hF4
   go_wp2_with fail
   refine (ZbG _ _).mono ?_
   rintro e w5 ⟨rfl, rfl⟩
   go_wp2_with fail
   go_roundg (4 - (3 + 1))
   case rel => exact ⟨4, _, _, _, _, _, _, rfl, rfl, by decide, HO4.out, HP4.out⟩
   case measure => have := HG.out; omega
  ·have HT0a := Lib.hid (show totT (liv0 4) = 2 from Zj4.1)
   have HT0b := Lib.hid (show totT (liv1 4) = 2 from Zj4.2)
   go_wp2_with fail
   have HOK1 := Lib.hid (ZeA HO.out (by have := HT0a.out; omega) (by have := HT0b.out; omega))
   refine (ZdT (most := 1) (pl := ⟨#[]⟩) ⟨0, nn, 0, c0⟩ wr (HR.out.below HP.out.below) HP.out.pool HOK1.out (by decide) (by rw [ZfF HO.out (by have := HT0a.out; omega) (by have := HT0b.out; omega), if_neg (by decide)]) (by decide)).mono ?_
   rintro e wa1 ⟨row1, rest1, ρa1, rfl, hpk, hl, hn, hp, hF⟩
   have HT1 := Lib.hid (show 1 ≤ totT (tookT row1 rest1).2 + (2 - totT c0.rows) ∧ totT (tookT row1 rest1).2 ≤ totT c0.rows ∧ totT c0.rows ≤ totT (tookT row1 rest1).2 + 1 from by
    have h1 := ZcG hpk
    have h2 := ZcX row1 rest1
    have h3 := Zc7 row1 rest1
    have h4 : 1 ≤ totT c0.rows := by rw [HO.out.w0]; have := HT0a.out; omega
    simp only at h1
    omega)
   obtain ⟨E1, hE1⟩ : ∃ E : Ent, E = { entOf row1 with need := nn.name, cls := ((0 : Nat) : Int) } := ⟨_, rfl⟩
   rw [← hE1]
   have HE1 := Lib.hid (show E1.cls = 0 by rw [hE1]; rfl)
   have HQ1 := Lib.hid (HP.out.step hl hp hF).fence
   have HO1x := Lib.hid (ZdV (c' := { c0 with served := 2, gv := (tookT row1 rest1).1, rows := (tookT row1 rest1).2 }) HO.out rfl rfl)
   clear hpk hl hn hp hF hE1
   go_upto_region 9 with (refine Zaq rfl 25 _ _ rfl wa1.heap.size rfl (entC E1) rfl rfl (ZZ E1) rfl (ZaJ E1) ?_)
   obtain ⟨wb1, hwb⟩ : ∃ wb : World, wb = wa1.alloc (.cells (entC E1) 25) := ⟨_, rfl⟩
   obtain ⟨eb1, heb⟩ : ∃ eb : Nat, eb = wa1.heap.size := ⟨_, rfl⟩
   try simp only [Act.put]
   rw [← hwb, ← heb]
   have HP1x := Lib.hid (show PlState w P ⟨1, 2, 1⟩ (2 + 1) _ _ (fence ρa1 wa1) wb1 by rw [hwb]; exact HQ1.out.on box_below)
   have HX1_1 := Lib.hid (show wb1.heap[eb1]? = some (.cells (entC E1) 25 (0, 0)) by rw [hwb, heb]; exact Zf)
   have HZ1_1 := Lib.hid (show fence ρa1 wa1 eb1 = [] by rw [heb]; exact Zw (Nat.le_refl _))
   clear hwb heb
   obtain ⟨d1, hd1⟩ : ∃ d : PC, d = { c0 with served := 2, gv := (tookT row1 rest1).1, rows := (tookT row1 rest1).2 } := ⟨_, rfl⟩
   obtain ⟨m1, hm1⟩ : ∃ m : PN, m = { nn with cls := nn.cls.set 0 d1 } := ⟨_, rfl⟩
   rw [← hd1, ← hm1] at HO1x
   have HT1a := Lib.hid (show 1 ≤ totT (tookT row1 rest1).2 ∧ totT (tookT row1 rest1).2 ≤ 2 by have h := HT1.out; rw [HO.out.w0] at h; have := HT0a.out; omega)
   replace HP1x := Lib.hid (show PlState w P ⟨1, 2, 1⟩ (2 + 1) _ (L.set 0 m1) (fence ρa1 wa1) wb1 by rw [hm1, hd1]; exact HP1x.out)
   clear hd1 hm1
   go_wp2_with fail
   have HOK2 := Lib.hid (ZeA HO1x.out (by have := HT1a.out; omega) (by have := HT0b.out; omega))
   refine (ZdT (most := 1) (pl := ⟨#[]⟩) ⟨0, m1, 1, c1⟩ wb1 (HR.out.below HP1x.out.below) HP1x.out.pool HOK2.out (by decide) (by rw [ZfF HO1x.out (by have := HT1a.out; omega) (by have := HT0b.out; omega), if_pos (by decide)]) (by decide)).mono ?_
   rintro e wa2 ⟨row2, rest2, ρa2, rfl, hpk, hl, hn, hp, hF⟩
   have HT2 := Lib.hid (show 1 ≤ totT (tookT row2 rest2).2 + (2 - totT c1.rows) ∧ totT (tookT row2 rest2).2 ≤ totT c1.rows ∧ totT c1.rows ≤ totT (tookT row2 rest2).2 + 1 from by
    have h1 := ZcG hpk
    have h2 := ZcX row2 rest2
    have h3 := Zc7 row2 rest2
    have h4 : 1 ≤ totT c1.rows := by rw [HO1x.out.w1]; have := HT0b.out; omega
    simp only at h1
    omega)
   obtain ⟨E2, hE2⟩ : ∃ E : Ent, E = { entOf row2 with need := m1.name, cls := ((1 : Nat) : Int) } := ⟨_, rfl⟩
   rw [← hE2]
   have HE2 := Lib.hid (show E2.cls = 1 by rw [hE2]; rfl)
   have HQ2 := Lib.hid (HP1x.out.step hl hp hF).fence
   have HO2x := Lib.hid (ZfG (c' := { c1 with served := 3, gv := (tookT row2 rest2).1, rows := (tookT row2 rest2).2 }) HO1x.out rfl rfl)
   have HX1_2 := Lib.hid (pkeep hF HX1_1.out HZ1_1.out)
   have HZ1_2 := Lib.hid (show fence ρa2 wa2 eb1 = [] by rw [Zg ρa2 wa2 eb1 (Zb HX1_2.out), hl eb1 (Zb HX1_1.out)]; exact HZ1_1.out)
   clear hpk hl hn hp hF hE2
   go_upto_region 10 with (refine Zaq rfl 25 _ _ rfl wa2.heap.size rfl (entC E2) rfl rfl (ZZ E2) rfl (ZaJ E2) ?_)
   obtain ⟨wb2, hwb⟩ : ∃ wb : World, wb = wa2.alloc (.cells (entC E2) 25) := ⟨_, rfl⟩
   obtain ⟨eb2, heb⟩ : ∃ eb : Nat, eb = wa2.heap.size := ⟨_, rfl⟩
   try simp only [Act.put]
   rw [← hwb, ← heb]
   have HP2x := Lib.hid (show PlState w P ⟨1, 2, 1⟩ (3 + 1) _ _ (fence ρa2 wa2) wb2 by rw [hwb]; exact HQ2.out.on box_below)
   have HX2_2 := Lib.hid (show wb2.heap[eb2]? = some (.cells (entC E2) 25 (0, 0)) by rw [hwb, heb]; exact Zf)
   have HZ2_2 := Lib.hid (show fence ρa2 wa2 eb2 = [] by rw [heb]; exact Zw (Nat.le_refl _))
   replace HX1_2 := Lib.hid (show wb2.heap[eb1]? = some (.cells (entC E1) 25 (0, 0)) by rw [hwb]; exact Zi HX1_2.out)
   clear hwb heb
   obtain ⟨d2, hd2⟩ : ∃ d : PC, d = { c1 with served := 3, gv := (tookT row2 rest2).1, rows := (tookT row2 rest2).2 } := ⟨_, rfl⟩
   obtain ⟨m2, hm2⟩ : ∃ m : PN, m = { m1 with cls := m1.cls.set 1 d2 } := ⟨_, rfl⟩
   rw [← hd2, ← hm2] at HO2x
   have HT2a := Lib.hid (show 1 ≤ totT (tookT row2 rest2).2 ∧ totT (tookT row2 rest2).2 ≤ 2 by have h := HT2.out; rw [HO.out.w1] at h; have := HT0b.out; omega)
   replace HP2x := Lib.hid (show PlState w P ⟨1, 2, 1⟩ (3 + 1) _ ((L.set 0 m1).set 0 m2) (fence ρa2 wa2) wb2 by rw [hm2, hd2]; exact HP2x.out)
   clear hd2 hm2
   go_wp2_with fail
   have HOK3 := Lib.hid (ZeA HO2x.out (by have := HT1a.out; omega) (by have := HT2a.out; omega))
   refine (ZdT (most := 1) (pl := ⟨#[]⟩) ⟨0, m2, 0, d1⟩ wb2 (HR.out.below HP2x.out.below) HP2x.out.pool HOK3.out (by decide) (by rw [ZfF HO2x.out (by have := HT1a.out; omega) (by have := HT2a.out; omega), if_neg (by decide)]) (by decide)).mono ?_
   rintro e wa3 ⟨row3, rest3, ρa3, rfl, hpk, hl, hn, hp, hF⟩
   have HT3 := Lib.hid (show 1 ≤ totT (tookT row3 rest3).2 + (2 - totT d1.rows) ∧ totT (tookT row3 rest3).2 ≤ totT d1.rows ∧ totT d1.rows ≤ totT (tookT row3 rest3).2 + 1 from by
    have h1 := ZcG hpk
    have h2 := ZcX row3 rest3
    have h3 := Zc7 row3 rest3
    have h4 : 1 ≤ totT d1.rows := by rw [HO2x.out.w0]; have := HT1a.out; omega
    simp only at h1
    omega)
   obtain ⟨E3, hE3⟩ : ∃ E : Ent, E = { entOf row3 with need := m2.name, cls := ((0 : Nat) : Int) } := ⟨_, rfl⟩
   rw [← hE3]
   have HE3 := Lib.hid (show E3.cls = 0 by rw [hE3]; rfl)
   have HQ3 := Lib.hid (HP2x.out.step hl hp hF).fence
   have HO3x := Lib.hid (ZdV (c' := { d1 with served := 4, gv := (tookT row3 rest3).1, rows := (tookT row3 rest3).2 }) HO2x.out rfl rfl)
   have HX1_3 := Lib.hid (pkeep hF HX1_2.out HZ1_2.out)
   have HZ1_3 := Lib.hid (show fence ρa3 wa3 eb1 = [] by rw [Zg ρa3 wa3 eb1 (Zb HX1_3.out), hl eb1 (Zb HX1_2.out)]; exact HZ1_2.out)
   have HX2_3 := Lib.hid (pkeep hF HX2_2.out HZ2_2.out)
   have HZ2_3 := Lib.hid (show fence ρa3 wa3 eb2 = [] by rw [Zg ρa3 wa3 eb2 (Zb HX2_3.out), hl eb2 (Zb HX2_2.out)]; exact HZ2_2.out)
   clear hpk hl hn hp hF hE3
   go_upto_region 11 with (refine Zaq rfl 25 _ _ rfl wa3.heap.size rfl (entC E3) rfl rfl (ZZ E3) rfl (ZaJ E3) ?_)
   obtain ⟨wb3, hwb⟩ : ∃ wb : World, wb = wa3.alloc (.cells (entC E3) 25) := ⟨_, rfl⟩
   obtain ⟨eb3, heb⟩ : ∃ eb : Nat, eb = wa3.heap.size := ⟨_, rfl⟩
   try simp only [Act.put]
   rw [← hwb, ← heb]
   have HP3x := Lib.hid (show PlState w P ⟨1, 2, 1⟩ (4 + 1) _ _ (fence ρa3 wa3) wb3 by rw [hwb]; exact HQ3.out.on box_below)
   have HX3_3 := Lib.hid (show wb3.heap[eb3]? = some (.cells (entC E3) 25 (0, 0)) by rw [hwb, heb]; exact Zf)
   have HZ3_3 := Lib.hid (show fence ρa3 wa3 eb3 = [] by rw [heb]; exact Zw (Nat.le_refl _))
   replace HX1_3 := Lib.hid (show wb3.heap[eb1]? = some (.cells (entC E1) 25 (0, 0)) by rw [hwb]; exact Zi HX1_3.out)
   replace HX2_3 := Lib.hid (show wb3.heap[eb2]? = some (.cells (entC E2) 25 (0, 0)) by rw [hwb]; exact Zi HX2_3.out)
   clear hwb heb
   obtain ⟨d3, hd3⟩ : ∃ d : PC, d = { d1 with served := 4, gv := (tookT row3 rest3).1, rows := (tookT row3 rest3).2 } := ⟨_, rfl⟩
   obtain ⟨m3, hm3⟩ : ∃ m : PN, m = { m2 with cls := m2.cls.set 0 d3 } := ⟨_, rfl⟩
   rw [← hd3, ← hm3] at HO3x
   have HOK4 := Lib.hid (ZeA HO3x.out (by have h := HT3.out; rw [HO2x.out.w0] at h; have := HT1a.out; omega) (by have := HT2a.out; omega))
   replace HP3x := Lib.hid (show PlState w P ⟨1, 2, 1⟩ (4 + 1) _ (((L.set 0 m1).set 0 m2).set 0 m3) (fence ρa3 wa3) wb3 by rw [hm3, hd3]; exact HP3x.out)
   clear hd3 hm3
   have z1 : wb3.cell? ⟨eb1, 1, none⟩ = some (.int .i64 0) := by rw [← HE1.out]; exact Za HX1_3.out rfl
   have z2 : wb3.cell? ⟨eb2, 1, none⟩ = some (.int .i64 1) := by rw [← HE2.out]; exact Za HX2_3.out rfl
   have z3 : wb3.cell? ⟨eb3, 1, none⟩ = some (.int .i64 0) := by rw [← HE3.out]; exact Za HX3_3.out rfl
   go_wp2_with fail
   refine (ZbG _ _).mono ?_
   rintro e w5 ⟨rfl, rfl⟩
   go_wp2_with fail
   refine (ZbG _ _).mono ?_
   rintro e w5 ⟨rfl, rfl⟩
   go_wp2_with fail
   refine (ZkF ⟨#[]⟩ 0 m3 wb3 HP3x.out.pool HOK4.out (by rw [HO3x.out.L]; exact Zb3 HO3x.out.name) (by rw [HO3x.out.L]; rfl)).mono ?_
   rintro e w6 ⟨rfl, hb6⟩
   rw [HO3x.out.uses]
   have HP6 := Lib.hid (HP3x.out.on hb6)
   clear hb6 z1 z2 z3
   go_wp2_with fail
   refine (Zjs ⟨#[97, 61, 98]⟩ w6 HP6.out.pool HOK4.out (by rw [HO3x.out.L]; refine Zfl (fun j y _ hy => ?_); have hm := List.mem_of_getElem? hy; rw [List.mem_singleton] at hm; rw [hm]; unfold eqS; rw [HO3x.out.name]; exact ZfK (fun e => by have h := congrArg ByteArray.size e; exact absurd h (by decide))) (by rw [HO3x.out.L]; show (1 : Int) ≤ 1; decide)).mono ?_
   rintro e w7 ⟨rfl, hb7⟩
   have HB7 := Lib.hid (HP6.out.below.trans (hb7.mono HP6.out.below.size))
   clear hb7
   go_wp2_with fail
   refine (ZbG _ _).mono ?_
   rintro e w8 ⟨rfl, rfl⟩
   go_wp2_with fail
   go_ret
   exact ⟨rfl, HB7.out⟩
structure Lw (x : PX) (next : Int) (L : List PN) (k : Nat) : Prop where
 inv : PInv x next L
 nx : 0 ≤ next ∧ next ≤ 8 * k
 us : ∀ n ∈ L, n.uses ≤ k
 tot : ∀ n ∈ L, ∀ c ∈ n.cls, totT c.rows ≤ k
 nm : ∀ n ∈ L, n.name.size ≤ 200
 px : (1 ≤ x.pools ∧ x.pools ≤ 8) ∧ (1 ≤ x.classes ∧ x.classes ≤ 4) ∧ (1 ≤ x.q ∧ x.q ≤ 64)
section
variable {x : PX} {next : Int} {L : List PN} {k : Nat}
theorem Lw.ok (h : Lw x next L k) (hk : k ≤ 200) : PoolOk x L := by
 have h1 := h.inv.few
 have h2 := h.px
 exact ⟨by omega, by omega, fun n hn => by have := h.nm n hn; omega, fun n hn c hc => by have := h.tot n hn c hc; omega⟩
theorem Zfs {n : PN} {j : Nat} {c' d : PC} (h : d ∈ n.cls.set j c') : d ∈ n.cls ∨ d = c' := by
 obtain ⟨t, ht⟩ := List.getElem?_of_mem h
 by_cases e : j = t
 ·subst e
  have hlt : j < n.cls.length := by have := (List.getElem?_eq_some_iff.1 ht).1; rwa [List.length_set] at this
  rw [List.getElem?_set_self hlt] at ht
  cases ht
  exact .inr rfl
 ·rw [List.getElem?_set_ne e] at ht
  exact .inl (List.mem_of_getElem? ht)
theorem Lw.cls (h : Lw x next L k) {i j : Nat} {a : PN} {c c' : PC} {next' : Int} (ha : L[i]? = some a) (_hc : a.cls[j]? = some c) (ht : totT c'.rows ≤ k + 1) (hp : PInv x next' (L.set i { a with cls := a.cls.set j c' })) (hn : 0 ≤ next' ∧ next' ≤ 8 * ((k + 1 : Nat) : Int)) : Lw x next' (L.set i { a with cls := a.cls.set j c' }) (k + 1) := by
 have ham := List.mem_of_getElem? ha
 refine ⟨hp, hn, fun n hm => ?_, fun n hm d hd => ?_, fun n hm => ?_, h.px⟩
 ·rcases Zao hm with h1 | rfl
  ·have := h.us n h1; omega
  ·have := h.us a ham; show a.uses ≤ _; omega
 ·rcases Zao hm with h1 | rfl
  ·have := h.tot n h1 d hd; omega
  ·rcases Zfs hd with h2 | rfl
   ·have := h.tot a ham d h2; omega
   ·exact ht
 ·rcases Zao hm with h1 | rfl
  ·exact h.nm n h1
  ·exact h.nm a ham
theorem Lw.uses (h : Lw x next L k) {i : Nat} {a : PN} {u : Int} (ha : L[i]? = some a) (hu : 1 ≤ u ∧ u ≤ k + 1) : Lw x next (L.set i { a with uses := u }) (k + 1) := by
 have ham := List.mem_of_getElem? ha
 refine ⟨ZlV h.inv ha hu.1, by have := h.nx; omega, fun n hm => ?_, fun n hm d hd => ?_, fun n hm => ?_, h.px⟩
 ·rcases Zao hm with h1 | rfl
  ·have := h.us n h1; omega
  ·show u ≤ _; omega
 ·rcases Zao hm with h1 | rfl
  ·have := h.tot n h1 d hd; omega
  ·have := h.tot a ham d hd; omega
 ·rcases Zao hm with h1 | rfl
  ·exact h.nm n h1
  ·exact h.nm a ham
theorem Lw.gone (h : Lw x next L k) (i : Nat) : Lw x next (L.eraseIdx i) k :=
 ⟨ZlW h.inv i, h.nx, fun n hn => h.us n (List.mem_of_mem_eraseIdx hn), fun n hn => h.tot n (List.mem_of_mem_eraseIdx hn), fun n hn => h.nm n (List.mem_of_mem_eraseIdx hn), h.px⟩
theorem Zih {a b : ByteArray} (h : eqS a b = true) : a = b := by
 refine Classical.byContradiction fun hn => ?_
 have := ZfK hn
 unfold eqS at h
 rw [this] at h
 cases h
theorem ZlX {a b : ByteArray} (h : eqS a b = false) : a ≠ b := by
 rintro rfl
 unfold eqS at h
 rw [Zeb] at h
 cases h
variable {ρ : Roles} {P : Nat} {v : Value} {w : World}
end
def PasAt (w : World) (v : Value) (l : List Pa) : Prop := ∃ a cap, v = .slice a l.length cap ∧ ∀ (k : Nat) y, l[k]? = some y → ∃ g off, a = some ⟨g, off, none⟩ ∧ w.rangeAt g (off + k * 10) (encPa y)
theorem PasAt.below {w w' : World} {v : Value} {l : List Pa} (h : PasAt w v l) (hb : Below w.heap.size w w') : PasAt w' v l := by
 obtain ⟨a, cap, rfl, hc⟩ := h
 exact ⟨a, cap, rfl, fun k y hy => by obtain ⟨g, off, ha, h0⟩ := hc k y hy; exact ⟨g, off, ha, fun j u hu => Zc hb (h0 j u hu)⟩⟩
theorem PasAt.at {w : World} {v : Value} {l : List Pa} (h : PasAt w v l) {k : Nat} {y : Pa} (hy : l[k]? = some y) : ∃ g off cap, v = .slice (some ⟨g, off, none⟩) l.length cap ∧ w.rangeAt g (off + k * 10) (encPa y) := by
 obtain ⟨a, cap, rfl, hc⟩ := h
 obtain ⟨g, off, rfl, h0⟩ := hc k y hy
 exact ⟨g, off, cap, rfl, h0⟩
section
variable {x : PX} {next : Int} {L : List PN} {k : Nat} {ρ : Roles} {P : Nat} {v : Value}
end
end Go.Proofs.YtdbjihkgafhakaaGreatDoor
