/-
  spin's Tidy of an empty source: the walk.
-/
import Derived.Test.YtohkchilogmneaaSpin5
namespace Go.Proofs.Ytohkchilogmneaa
open Go.RowKit

section
variable {pre : List Int} {ρ : Roles} {sp : Nat} {q : Int} {gv : Bool} {v : Value} {ns : List Nd}
def TidyPost (pre : List Int) (ρ : Roles) (w : World) (sp : Nat) (q : Int) (gv : Bool) (v : Value) (ns : List Nd) (k : Nat) (e : Ending) (w' : World) : Prop :=
  e = .returned (.tuple #[]) ∧ (∃ v', SpinAt pre ρ w' sp q (if k = 0 then false else gv) v' (ns.eraseIdx k)) ∧ Fp (fun j => j = sp ∨ v.ownBlock = some j) w w'
theorem spin_given {w w' : World} {g' : Bool} (h : SpinAt pre ρ w sp q gv v ns) (hf : Fp (fun j => j = sp) w w') (hh : w'.heap[sp]? = some (.cells #[.int .i64 q, v, .bool g'] 100 (0, 0))) : SpinAt pre ρ w' sp q g' v ns :=
  ⟨hh, h.rs, h.arr.frame hf (fun k hk e => by have h1 := h.ra k hk; rw [e, h.rs] at h1; simp at h1), h.ra,
    fun i n hn => ⟨(h.node i n hn).1, hf.heap (h.node i n hn).2 (fun e => by have h1 := (h.node i n hn).1; rw [e, h.rs] at h1; simp at h1)⟩, h.once, h.few⟩
theorem eraseIdx_map' {α β : Type} (f : α → β) : ∀ (l : List α) (k : Nat), (l.eraseIdx k).map f = (l.map f).eraseIdx k
  | [], _ => rfl
  | _ :: _, 0 => rfl
  | x :: r, k + 1 => by simp [eraseIdx_map' f r k]
theorem tidy_close (k : Nat) {w w3 w4 : World} {g' : Bool} {v' : Value} (hf3 : Fp (fun j => j = sp) w w3) (h3 : SpinAt pre ρ w3 sp q g' v ns) (hg : g' = if k = 0 then false else gv)
    (hA : ArrIn 104 w4 v' ((ns.map Nd.blk).eraseIdx k)) (ho : v'.ownBlock = v.ownBlock) (hf4 : Fp (fun j => v.ownBlock = some j) w3 w4) :
    TidyPost pre ρ w sp q gv v ns k (.returned (.tuple #[])) (w4.setCell ⟨sp, 1, none⟩ v') := by
  have hsv : v.ownBlock ≠ some sp := fun e => by have h1 := h3.ra sp e; rw [h3.rs] at h1; simp at h1
  have hh4 := hf4.heap h3.head hsv
  have hf5 : Fp (fun j => j = sp) w4 (w4.setCell ⟨sp, 1, none⟩ v') := (Fp.refl (fun j => j = sp) w4).setCell (p := ⟨sp, 1, none⟩) (fun _ => rfl) v'
  refine ⟨rfl, ⟨v', ?_, h3.rs, ?_, fun j hj => h3.ra j (ho ▸ hj), fun i m hm => ?_, ?_, ?_⟩, ?_⟩
  · rw [← hg]
    exact fr_setCell_at hh4
  · have hA' := hA.frame hf5 (fun j hj e => hsv (by rw [← ho, hj, e]))
    rwa [show (ns.eraseIdx k).map Nd.blk = (ns.map Nd.blk).eraseIdx k from eraseIdx_map' _ _ _]
  · obtain ⟨j, hj⟩ := List.mem_iff_getElem?.1 (List.mem_of_mem_eraseIdx (List.mem_of_getElem? hm))
    obtain ⟨hr, hc⟩ := h3.node j m hj
    refine ⟨hr, hf5.heap (hf4.heap hc (fun e => ?_)) (fun e => ?_)⟩
    · have h1 := h3.ra _ e
      rw [hr] at h1
      simp at h1
    · rw [e, h3.rs] at hr
      simp at hr
  · exact h3.once.sublist ((List.eraseIdx_sublist ns k).map Nd.id)
  · exact Nat.le_trans (List.eraseIdx_sublist ns k).length_le h3.few
  · refine Fp.trans (hf3.mono (fun j hj => .inl hj)) ((hf4.mono (S' := fun j => j = sp ∨ v.ownBlock = some j) (fun j hj => .inr hj)).trans (hf5.mono (S' := fun j => j = sp ∨ v.ownBlock = some j) (fun j hj => .inl hj)) (fun _ _ h => h)) (fun _ _ h => h)
set_option maxRecDepth 100000 in
set_option maxHeartbeats 2000000 in
theorem spinTidy_gone (k : Nat) (n : Nd) (w : World) (hS : SpinAt pre ρ w sp q gv v ns) (hn : ns[k]? = some n) (T K : Nat) (u u' : Value) (hsrc : n.src = .iface T u)
    (hm : ∀ w, (method 285 T u "Empty").run Try.prog w = .ok (K, u') w) (hk : ∀ w, (callFunc K #[u']).run Try.prog w = .ok (.enter K #[u']) w)
    (hE : ∀ w', Below w.heap.size w w' → Calls Try.prog K #[u'] w' fun e w2 => e = .returned (.bool true) ∧ Below w'.heap.size w' w2) :
    Calls Try.prog 52 #[.pointer (some ⟨sp, 0, none⟩), .pointer (some ⟨n.blk, 0, none⟩)] w (TidyPost pre ρ w sp q gv v ns k) := by
  have HS := Lib.hid hS
  have HN := Lib.hid hn
  have c3 : w.cell? ⟨n.blk, 3, none⟩ = some (.iface T u) := by rw [← hsrc]; exact fr_cell_of_heap (hS.node k n hn).2 rfl
  clear hS hn
  go_enter Try.func52, Try.ntmps52
  go_wp2_with fail
  refine (hE _ (Below.refl _ _)).mono ?_
  rintro e w1 ⟨rfl, hb⟩
  have HB := Lib.hid hb
  have HS1 := Lib.hid (HS.out.below hb)
  have d1 := HS1.out.c1
  have hkn : k < ns.length := (List.getElem?_eq_some_iff.1 HN.out).1
  obtain ⟨a, cap, hv, hcap⟩ := HS1.out.form
  have HV := Lib.hid hv
  rw [hv] at d1
  clear hb hE c3 hv
  go_wp2_with fail
  have hidx := spinIndex_any k n w1 HS1.out HN.out
  rw [HV.out] at hidx
  refine hidx.mono ?_
  rintro e w2 ⟨rfl, rfl⟩
  clear hidx
  have d2 := HS1.out.c2
  have f2 : w1.frozen? ⟨sp, 2, none⟩ = false := fr_free_of_heap HS1.out.head
  by_cases hk0 : k = 0
  · subst hk0
    have hz : (((0 : Nat) : Int) == 0) = true := rfl
    obtain ⟨w3, hw3⟩ : ∃ w3, w3 = w1.setCell ⟨sp, 2, none⟩ (.bool false) := ⟨_, rfl⟩
    have hF13 : Fp (fun j => j = sp) w1 w3 := by rw [hw3]; exact (Fp.refl (fun j => j = sp) w1).setCell (p := ⟨sp, 2, none⟩) (fun _ => rfl) _
    have HF3 := Lib.hid (Fp.trans (Fp.of_below (S := fun j => j = sp) HB.out) hF13 (fun _ _ h => h))
    have H3 := Lib.hid (spin_given HS1.out hF13 (by rw [hw3]; exact fr_setCell_at HS1.out.head) : SpinAt pre ρ w3 sp q (if (0 : Nat) = 0 then false else gv) v ns)
    go_wp2_with fail
    rw [← hw3]
    clear hw3 hF13
    have hdel := spinDelete_any v (ns.map Nd.blk) 0 w3 H3.out.arr (by rw [List.length_map]; exact hkn) (by rw [List.length_map]; exact H3.out.few)
    rw [HV.out] at hdel
    refine hdel.mono ?_
    rintro e w4 ⟨v', rfl, hA, ho, hf4⟩
    rw [← HV.out] at ho hf4
    have HC := Lib.hid (tidy_close (gv := gv) 0 HF3.out H3.out rfl hA ho hf4)
    obtain ⟨a', c', hv', -⟩ := hA.form
    rw [List.length_eraseIdx_of_lt (by rw [List.length_map]; exact hkn), List.length_map] at hv'
    have hsv : v.ownBlock ≠ some sp := fun e => by have h1 := H3.out.ra sp e; rw [H3.out.rs] at h1; simp at h1
    have hh4 := hf4.heap H3.out.head hsv
    have d4 : w4.cell? ⟨sp, 1, none⟩ = some v := fr_cell_of_heap hh4 rfl
    have f4 : w4.frozen? ⟨sp, 1, none⟩ = false := fr_free_of_heap hh4
    subst hv'
    clear hdel hA ho hf4 hh4 hsv d1 d2 f2
    go_wp2
    go_end0
    exact HC.out
  · have hz : (((k : Nat) : Int) == 0) = false := by simpa using hk0
    have HG := Lib.hid (show gv = if k = 0 then false else gv by rw [if_neg hk0])
    have HF3 := Lib.hid (Fp.of_below (S := fun j => j = sp) HB.out)
    have hfew := HS1.out.few
    have HW := Lib.hid (show wrap64 ((k : Int) + 1) = (k : Int) + 1 by unfold wrap64; omega)
    clear hfew
    clear hk0
    go_wp2_with fail
    rw [HW.out]
    have hdel := spinDelete_any v (ns.map Nd.blk) k w1 HS1.out.arr (by rw [List.length_map]; exact hkn) (by rw [List.length_map]; exact HS1.out.few)
    rw [HV.out] at hdel
    refine hdel.mono ?_
    rintro e w4 ⟨v', rfl, hA, ho, hf4⟩
    rw [← HV.out] at ho hf4
    have HC := Lib.hid (tidy_close (gv := gv) k HF3.out HS1.out HG.out hA ho hf4)
    obtain ⟨a', c', hv', -⟩ := hA.form
    rw [List.length_eraseIdx_of_lt (by rw [List.length_map]; exact hkn), List.length_map] at hv'
    have hsv : v.ownBlock ≠ some sp := fun e => by have h1 := HS1.out.ra sp e; rw [HS1.out.rs] at h1; simp at h1
    have hh4 := hf4.heap HS1.out.head hsv
    have d4 : w4.cell? ⟨sp, 1, none⟩ = some v := fr_cell_of_heap hh4 rfl
    have f4 : w4.frozen? ⟨sp, 1, none⟩ = false := fr_free_of_heap hh4
    subst hv'
    clear hdel hA ho hf4 hh4 hsv d1 d2 f2
    go_wp2
    go_end0
    exact HC.out
end
end Go.Proofs.Ytohkchilogmneaa
