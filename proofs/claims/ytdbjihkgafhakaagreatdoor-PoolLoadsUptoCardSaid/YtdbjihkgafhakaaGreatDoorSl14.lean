/-
 pool.Pools: Enter of a new need: the walk.
-/
import Derived.Test.YtdbjihkgafhakaaGreatDoorSl13
namespace Go.Proofs.YtdbjihkgafhakaaGreatDoor
open Go.RowKit
def NewN (s : ByteArray) (nb : Nat) (next : Int) (n : PN) : Prop := n.name = s ∧ n.uses = 1 ∧ n.blk = nb ∧ ∀ (j : Nat) c, n.cls[j]? = some c → c.served = next + j ∧ c.gv = false ∧ c.rows = []
structure NSt (ρ : Roles) (w : World) (P : Nat) (x : PX) (next : Int) (v : Value) (L : List PN) (s : ByteArray) (nb k : Nat) (ρ' : Roles) (n : PN) (wr : World) : Prop where
 new : NewN s nb next n
 pool : PoolAt ρ' wr P x (next + k) v L
 need : NeedAt ρ' wr x.q k n
 later : Later ρ ρ' w
 news : ZA ρ' [0] w.heap.size
 far : ∀ j, wr.heap.size ≤ j → ρ' j = []
 fp : Fp (Part ρ [0]) w wr
 nb : w.heap.size ≤ nb
def NRel (ρ : Roles) (w : World) (P : Nat) (x : PX) (next : Int) (v : Value) (L : List PN) (s : ByteArray) (nb : Nat) (g : Nat) (i : Value) (wr : World) : Prop := ∃ (k : Nat) (ρ' : Roles) (n : PN), g = x.classes - k ∧ i = .int .i64 k ∧ k ≤ x.classes ∧ NSt ρ w P x next v L s nb k ρ' n wr
theorem Zb2 : (Tryz.prog.info? 73).map (fun i => (i.zero, i.size, i.bytes)) = some (some (.pointer none), 1, 8) := by kernel_rfl
theorem Za9 {Pr : Program} {ops : Array Oper} {o : Oper} {a : Act} {w : World} {K : Act → World → Prop} {Q : Exit → Act → World → Prop} {E : Prop} (hgd : o.guard = none) (s y : Operand) (t : TypeId)
 (hop : o.op = Op.call { callee := Callee.builtin Builtin.append, args := #[s, y], argTypes := #[t, t] }) (e : TypeId) (ht : Pr.underlying t = some (.slice e)) (hinfo : (Pr.info? e).map (fun i => (i.zero, i.size, i.bytes)) = some (some (.pointer none), 1, 8))
 (v : Value) (bs : List Nat) (hs : a.eval s = v) (h : ArrIn e w v bs) (u b : Nat) (hx : a.eval y = .slice (some ⟨u, 0, none⟩) 1 1) (hu : w.cell? ⟨u, 0, none⟩ = some (ptrV b)) (hn : bs.length < 1000000)
 (hK : ∀ v' w', ArrIn e w' v' (bs ++ [b]) → w.grownBy w' v.ownBlock → (v'.ownBlock = v.ownBlock ∨ v'.ownBlock = some w.heap.size) → K (a.put o.dst v') w') : if Region.wanted o (yielded ops a.tmps) = true then Oper.wp Pr o a w K Q else E := by
 have hw : Region.wanted o (yielded ops a.tmps) = true := by simp [Region.wanted, hgd]
 rw [if_pos hw]
 obtain ⟨v', w', hrun, r1, r2, r3⟩ := Zdo (P := Pr) t o.type e ht hinfo h u b hu hn
 unfold Oper.wp
 simp [execOp, hop, resolve, invoke, builtin, hs, hx, hrun, Result.andThen]
 exact hK v' w' r1 r2 r3
theorem Zjt {pre : List Int} {ρ : Roles} {q : Int} {w : World} {sp : Nat} (h1 : 1 ≤ q) (h2 : q ≤ 64) (hs : ρ sp = pre ++ [1]) (hf : ρ (sp + 1) = pre ++ [6]) (g1 : w.heap[sp]? = some (.cells #[.int .i64 q, .slice none 0 0, .bool false] 115 (0, 0))) (g2 : w.heap[sp + 1]? = some (.cells #[.pointer (some ⟨sp, 0, none⟩)] 117 (0, 0))) : ShareAt pre ρ w (sp + 1) q false [] :=
 ⟨sp, .slice none 0 0, [], fun _ => 0, fun _ => (false, []), ⟨⟨g2, hf, ⟨g1, hs, .inl ⟨rfl, rfl⟩, (fun k hk => by cases hk), (fun i n hn => by simp at hn), by simp, by simp⟩, (fun n hn => by cases hn), (fun n hn => by cases hn), h1, h2, trivial, (fun n hn => by cases hn)⟩, (fun n hn => by cases hn)⟩, rfl⟩
section
variable {ρ : Roles} {P : Nat} {x : PX} {next : Int} {v : Value} {L : List PN} {w : World}
def Zay (ρ' : Roles) (sp cb ub nb : Nat) (v9 : Value) : Roles := fun j => if j = sp then [0, 6, (cb : Int), 1] else if j = sp + 1 then [0, 6, (cb : Int), 6] else if j = cb then [0, 5, (nb : Int)] else if j = ub ∧ v9.ownBlock = some ub then [0, 2, (nb : Int)] else ρ' j
theorem ZcW {s : ByteArray} {nb k sp : Nat} {ρ' : Roles} {n : PN} {wr w7 W w9 w10 : World} {v9 : Value} (h : NSt ρ w P x next v L s nb k ρ' n wr) (hL : ∀ m ∈ L, m.blk ≠ nb) (hq : 1 ≤ x.q ∧ x.q ≤ 64)
 (hF : Fp (fun j => j = P) wr w7) (hP : w7.heap[P]? = some (ppO x (next + k + 1) v)) (h1 : w7.heap[sp]? = some (.cells #[.int .i64 x.q, .slice none 0 0, .bool false] 115 (0, 0))) (h2 : w7.heap[sp + 1]? = some (.cells #[.pointer (some ⟨sp, 0, none⟩)] 117 (0, 0))) (hsp : wr.heap.size ≤ sp)
 (hW : W = (w7.alloc (.cells #[.int .i64 (next + k), .pointer (some ⟨sp + 1, 0, none⟩)] 76)).alloc (.cells #[.pointer (some ⟨w7.heap.size, 0, none⟩)] 73))
 (hA : ArrIn 73 w9 v9 (n.cls.map PC.blk ++ [w7.heap.size])) (hg : W.grownBy w9 n.cv.ownBlock) (hat : v9.ownBlock = n.cv.ownBlock ∨ v9.ownBlock = some W.heap.size) (hw : w10 = w9.setCell ⟨nb, 2, none⟩ v9) :
 NSt ρ w P x next v L s nb (k + 1) (Zay ρ' sp w7.heap.size W.heap.size nb v9) { n with cv := v9, cls := n.cls ++ [(⟨next + k, w7.heap.size, sp + 1, false, []⟩ : PC)] } w10 := by
 have hnb : n.blk = nb := h.new.2.2.1
 have z1 := hF.size
 have z2 := Zb h2
 have z3 : W.heap.size = w7.heap.size + 2 := by rw [hW]; simp
 have hbW : Below w7.heap.size w7 W := by rw [hW]; exact box_below.alloc (by simp) _
 have hFg : Fp (fun j => n.cv.ownBlock = some j) W w9 := (Fp.refl _ W).grown hg (fun _ _ e => e)
 have z4 := hFg.size
 have hF10 : Fp (fun j => j = nb) w9 w10 := by rw [hw]; exact (Fp.refl (fun j => j = nb) w9).setCell (p := ⟨nb, 2, none⟩) (fun _ => rfl) _
 have z5 := hF10.size
 have hnr := h.need.role
 rw [hnb] at hnr
 have hnlt : nb < wr.heap.size := by rw [← hnb]; exact Zb h.need.blk
 have hPlt : P < wr.heap.size := Zb h.pool.head
 have hcv : ∀ j, n.cv.ownBlock = some j → ρ' j = [0, 2, (nb : Int)] ∧ j < wr.heap.size := fun j hj => ⟨by rw [← hnb]; exact h.need.arole j hj, h.need.arr.lt j hj⟩
 have hl : Later ρ' (Zay ρ' sp w7.heap.size W.heap.size nb v9) wr := fun j hj => by
  unfold Zay
  rw [if_neg (by omega), if_neg (by omega), if_neg (by omega), if_neg (by omega)]
 have F2 : Fp (fun j => j = nb ∨ n.cv.ownBlock = some j) w7 w10 := (((Fp.of_below hbW).trans hFg (fun _ _ e => .inr e)).trans hF10 (fun _ _ e => .inl e))
 have F1 : Fp (fun j => j = P ∨ j = nb ∨ n.cv.ownBlock = some j) wr w10 := (hF.mono (fun _ e => .inl e)).trans F2 (fun _ _ e => .inr e)
 have hS : ∀ j, j = nb ∨ n.cv.ownBlock = some j → Zay ρ' sp w7.heap.size W.heap.size nb v9 j = [0, 4, (nb : Int)] ∨ Zay ρ' sp w7.heap.size W.heap.size nb v9 j = [0, 2, (nb : Int)] := fun j e => by
  rcases e with e | e
  ·exact .inl (by rw [e, hl nb hnlt]; exact hnr)
  ·exact .inr (by rw [hl j (hcv j e).2]; exact (hcv j e).1)
 have hnew : ∀ j, w7.heap.size ≤ j → ¬ (j = nb ∨ n.cv.ownBlock = some j) := fun j hj e => by
  rcases e with e | e
  ·omega
  ·have := (hcv j e).2
   omega
 have hsn : ∀ j, wr.heap.size ≤ j → ¬ (j = nb ∨ n.cv.ownBlock = some j) := fun j hj e => by
  rcases e with e | e
  ·omega
  ·have := (hcv j e).2
   omega
 have hcb : w10.heap[w7.heap.size]? = some (.cells #[.int .i64 (next + k), .pointer (some ⟨sp + 1, 0, none⟩)] 76 (0, 0)) := by
  have hc : W.heap[w7.heap.size]? = some (.cells #[.int .i64 (next + k), .pointer (some ⟨sp + 1, 0, none⟩)] 76 (0, 0)) := by rw [hW]; exact Zi Zf
  exact hF10.heap (hFg.heap hc (fun e => hnew _ (Nat.le_refl _) (.inr e))) (fun e => hnew _ (Nat.le_refl _) (.inl e))
 have hnn : w10.heap[nb]? = some (pnO { n with cv := v9, cls := n.cls ++ [(⟨next + k, w7.heap.size, sp + 1, false, []⟩ : PC)] }) := by
  have hb0 := h.need.blk
  rw [hnb] at hb0
  have hb1 := hF.heap hb0 (fun e => by have h3 := h.pool.role; rw [← e, hnr] at h3; simp at h3)
  have hb2 := hFg.heap ((hbW.block _ (Zb hb1)).trans hb1) (fun e => by have h3 := (hcv nb e).1; rw [hnr] at h3; simp at h3)
  rw [hw]
  exact Ze hb2
 have hpool7 := (h.pool.later hl).head_set hF hP
 have hpool : PoolAt (Zay ρ' sp w7.heap.size W.heap.size nb v9) w10 P x (next + (k + 1 : Nat)) v L := by
  rw [show next + ((k + 1 : Nat) : Int) = next + k + 1 by omega]
  refine hpool7.frame F2 (fun j e hs => ?_) (fun j e hs => ?_) (fun i m hm j _ hp hs => ?_)
  ·rcases hS j hs with e1 | e1 <;> · rw [e] at e1; simp at e1
  ·rcases hS j hs with e1 | e1 <;> · rw [e] at e1; simp at e1
  ·have hne := hL m (List.mem_of_getElem? hm)
   rcases hS j hs with e1 | e1 <;> rcases hp with e | e | e | ⟨c, _, t, e⟩ <;> · rw [e] at e1; simp at e1 <;> omega
 refine ⟨⟨h.new.1, h.new.2.1, hnb, fun j c hc => ?_⟩, hpool, ⟨by rw [show ({ n with cv := v9, cls := n.cls ++ [(⟨next + k, w7.heap.size, sp + 1, false, []⟩ : PC)] } : PN).blk = nb from hnb]; exact hnn, by show Zay ρ' sp w7.heap.size W.heap.size nb v9 n.blk = [0, 4, (n.blk : Int)]; rw [hnb, hl nb hnlt]; exact hnr, ?_, fun j hj => ?_, fun j c hc => ?_, by simp [h.need.len], ?_⟩, fun j hj => ?_, fun j hj => ?_, fun j hj => ?_, ?_, h.nb⟩
 ·rcases Nat.lt_or_ge j n.cls.length with hj | hj
  ·rw [List.getElem?_append_left hj] at hc
   exact h.new.2.2.2 j c hc
  ·rw [List.getElem?_append_right hj] at hc
   have hj0 : j = n.cls.length := by
    have := (List.getElem?_eq_some_iff.1 hc).1
    simp at this
    omega
   subst hj0
   simp at hc
   subst hc
   exact ⟨by rw [h.need.len], rfl, rfl⟩
 ·show ArrIn _ w10 v9 ((n.cls ++ [(⟨next + k, w7.heap.size, sp + 1, false, []⟩ : PC)]).map PC.blk)
  rw [List.map_append]
  exact hA.frame hF10 (fun j hj e => by
   rcases hat with e1 | e1
   ·rw [e1, e] at hj
    have h3 := (hcv nb hj).1
    rw [hnr] at h3
    simp at h3
   ·rw [e1] at hj
    simp at hj
    omega)
 ·show Zay ρ' sp w7.heap.size W.heap.size nb v9 j = [0, 2, (n.blk : Int)]
  change v9.ownBlock = some j at hj
  rw [hnb]
  rcases hat with e1 | e1
  ·rw [e1] at hj
   rw [hl j (hcv j hj).2]
   exact (hcv j hj).1
  ·have hju : j = W.heap.size := by rw [e1] at hj; simpa using hj.symm
   unfold Zay
   rw [if_neg (by omega), if_neg (by omega), if_neg (by omega), if_pos ⟨hju, e1⟩]
 ·show ClsAt _ w10 x.q n.blk c
  change (n.cls ++ [(⟨next + k, w7.heap.size, sp + 1, false, []⟩ : PC)])[j]? = some c at hc
  rw [hnb]
  rcases Nat.lt_or_ge j n.cls.length with hj | hj
  ·rw [List.getElem?_append_left hj] at hc
   have hC := h.need.cls j c hc
   rw [hnb] at hC
   have hC' := hC.later hl
   refine hC'.frame F1 (fun e => ?_) (fun t ht hp e => ?_)
   ·have hr := hC.role
    rcases e with e | e | e
    ·rw [e, h.pool.role] at hr
     simp at hr
    ·rw [e, hnr] at hr
     simp at hr
    ·rw [(hcv _ e).1] at hr
     simp at hr
   ·obtain ⟨u, hu⟩ := hp
    rcases e with e | e
    ·rw [e, hl P hPlt, h.pool.role] at hu
     simp at hu
    ·rcases hS t e with e1 | e1 <;> · rw [e1] at hu; simp at hu
  ·rw [List.getElem?_append_right hj] at hc
   have hj0 : j = n.cls.length := by
    have := (List.getElem?_eq_some_iff.1 hc).1
    simp at this
    omega
   subst hj0
   simp at hc
   subst hc
   refine ⟨hcb, ?_, Zjt hq.1 hq.2 ?_ ?_ (F2.heap h1 (hsn sp hsp)) (F2.heap h2 (hsn _ (by omega)))⟩
   ·unfold Zay
    rw [if_neg (by show ¬ w7.heap.size = sp; omega), if_neg (by show ¬ w7.heap.size = sp + 1; omega), if_pos rfl]
   ·unfold Zay
    rw [if_pos rfl]
    rfl
   ·unfold Zay
    rw [if_neg (by omega), if_pos rfl]
    rfl
 ·show ((n.cls ++ [(⟨next + k, w7.heap.size, sp + 1, false, []⟩ : PC)]).map PC.blk).Nodup
  rw [List.map_append, List.nodup_append]
  refine ⟨h.need.once, by simp, fun a ha b hb e => ?_⟩
  obtain ⟨c, hc, rfl⟩ := List.mem_map.1 ha
  simp at hb
  obtain ⟨i, hi⟩ := List.getElem?_of_mem hc
  have := Zb (h.need.cls i c hi).blk
  omega
 ·rw [hl j (Nat.lt_of_lt_of_le hj h.fp.size)]
  exact h.later j hj
 ·have key : (∃ r, Zay ρ' sp w7.heap.size W.heap.size nb v9 j = 0 :: r) ∨ Zay ρ' sp w7.heap.size W.heap.size nb v9 j = ρ' j := by
   unfold Zay
   split
   ·exact .inl ⟨_, rfl⟩
   ·split
    ·exact .inl ⟨_, rfl⟩
    ·split
     ·exact .inl ⟨_, rfl⟩
     ·split
      ·exact .inl ⟨_, rfl⟩
      ·exact .inr rfl
  rcases key with ⟨r, e⟩ | e
  ·exact .inr ⟨r, e⟩
  ·rcases h.news j hj with e2 | ⟨t, e2⟩
   ·exact .inl (e.trans e2)
   ·exact .inr ⟨t, e.trans e2⟩
 ·have hv9 : ∀ i, v9.ownBlock = some i → i < w9.heap.size := hA.lt
  unfold Zay
  rw [if_neg (by omega), if_neg (by omega), if_neg (by omega), if_neg (fun e => by have := hv9 _ e.2; omega)]
  exact h.far j (by omega)
 ·refine h.fp.trans F1 (fun j hj e => ?_)
  have hin : ∀ {r : List Int}, ρ' j = 0 :: r → Part ρ [0] j := fun {r} e => ⟨r, by rw [← h.later j hj, e]; rfl⟩
  rcases e with e | e | e
  ·exact hin (by rw [e]; exact h.pool.role)
  ·exact hin (by rw [e]; exact hnr)
  ·exact hin (hcv j e).1
theorem ZlT {s : ByteArray} {w2 w3 : World} (hS : PoolAt (fence ρ w) w2 P x next v L) (hb : Below w.heap.size w w2) (hw : w3 = w2.alloc (pnO ⟨s, 1, w2.heap.size, .slice none 0 0, []⟩)) : NSt ρ w P x next v L s w2.heap.size 0 (fun j => if j = w2.heap.size then [0, 4, (w2.heap.size : Int)] else fence ρ w j) ⟨s, 1, w2.heap.size, .slice none 0 0, []⟩ w3 := by
 have hb3 : Below w2.heap.size w2 w3 := by rw [hw]; exact box_below
 have hz : w3.heap.size = w2.heap.size + 1 := by rw [hw]; simp
 have hl : Later (fence ρ w) (fun j => if j = w2.heap.size then [0, 4, (w2.heap.size : Int)] else fence ρ w j) w2 := fun k hk => by simp [show k ≠ w2.heap.size by omega]
 have hbz := hb.size
 refine ⟨⟨rfl, rfl, rfl, fun j c h => by simp at h⟩, by simpa using (hS.later hl).below hb3, ⟨by rw [hw]; exact Zf, by simp, .inl ⟨rfl, rfl⟩, (fun k hk => by cases hk), (fun k c h => by simp at h), rfl, by simp⟩, fun k hk => by simp [show k ≠ w2.heap.size by omega]; exact Zg ρ w k hk, fun k hk => ?_, fun j hj => by simp [show j ≠ w2.heap.size by omega]; exact Zw (by omega), (Fp.of_below hb).then_below hb3, hbz⟩
 by_cases e : k = w2.heap.size
 ·exact .inr ⟨[4, (w2.heap.size : Int)], by simp [e]⟩
 ·exact .inl (by simp [e]; exact Zw hk)
def ZaK (ρ' : Roles) (ub : Nat) (v9 : Value) : Roles := fun j => if j = ub ∧ v9.ownBlock = some ub then [0, 3] else ρ' j
theorem Znd {s : ByteArray} {nb : Nat} {ρ' : Roles} {n : PN} {wr W w9 w10 : World} {v9 : Value} (h : NSt ρ w P x next v L s nb x.classes ρ' n wr) (hL : ∀ m ∈ L, m.blk ≠ nb)
 (hW : W = wr.alloc (.cells #[.pointer (some ⟨nb, 0, none⟩)] 72)) (hA : ArrIn 72 w9 v9 (L.map PN.blk ++ [nb])) (hg : W.grownBy w9 v.ownBlock) (hat : v9.ownBlock = v.ownBlock ∨ v9.ownBlock = some W.heap.size) (hw : w10 = w9.setCell ⟨P, 4, none⟩ v9) :
 Za2 ρ w P x (next + x.classes) v9 (L ++ [n]) w10 := by
 have hnb : n.blk = nb := h.new.2.2.1
 have hbW : Below wr.heap.size wr W := by rw [hW]; exact box_below
 have zW : W.heap.size = wr.heap.size + 1 := by rw [hW]; simp
 have hFg : Fp (fun j => v.ownBlock = some j) W w9 := (Fp.refl _ W).grown hg (fun _ _ e => e)
 have z4 := hFg.size
 have hF10 : Fp (fun j => j = P) w9 w10 := by rw [hw]; exact (Fp.refl (fun j => j = P) w9).setCell (p := ⟨P, 4, none⟩) (fun _ => rfl) _
 have hl : Later ρ' (ZaK ρ' W.heap.size v9) wr := fun j hj => by
  unfold ZaK
  rw [if_neg (by omega)]
 have hpW := (h.pool.later hl).below hbW
 have hv3 : ∀ j, v.ownBlock = some j → ZaK ρ' W.heap.size v9 j = [0, 3] := fun j hj => hpW.arole j hj
 have hP9 := hFg.heap hpW.head (fun e => by have h1 := hv3 P e; rw [hpW.role] at h1; simp at h1)
 have hh : w10.heap[P]? = some (ppO x (next + x.classes) v9) := by rw [hw]; exact Ze hP9
 have hN9 : NeedAt (ZaK ρ' W.heap.size v9) w9 x.q x.classes n := (((h.need.later hl).frame (Fp.of_below (S := fun _ => False) hbW) (fun _ _ _ e => e))).frame hFg (fun j _ hp e => by
  have h1 := hv3 j e
  rcases hp with e1 | e1 | e1 | ⟨c, _, t, e1⟩ <;> · rw [h1] at e1; simp at e1)
 refine ⟨ZaK ρ' W.heap.size v9, fun j hj => ?_, fun j hj => ?_, hpW.join hN9 (fun m hm => by rw [hnb]; exact hL m hm) hFg (by rw [List.map_append, List.map_cons, List.map_nil, hnb]; exact hA) (fun j hj => ?_) hF10 hh, ?_⟩
 ·rw [hl j (Nat.lt_of_lt_of_le hj h.fp.size)]
  exact h.later j hj
 ·unfold ZaK
  by_cases e : j = W.heap.size ∧ v9.ownBlock = some W.heap.size
  ·exact .inr ⟨[3], by show (if j = W.heap.size ∧ v9.ownBlock = some W.heap.size then ([0, 3] : List Int) else ρ' j) = _; rw [if_pos e]; rfl⟩
  ·rcases h.news j hj with e2 | ⟨t, e2⟩
   ·exact .inl (by rw [if_neg e]; exact e2)
   ·exact .inr ⟨t, by show (if j = W.heap.size ∧ v9.ownBlock = some W.heap.size then ([0, 3] : List Int) else ρ' j) = _; rw [if_neg e]; exact e2⟩
 ·rcases hat with e1 | e1
  ·rw [e1] at hj
   exact hv3 j hj
  ·have hju : j = W.heap.size := by rw [e1] at hj; simpa using hj.symm
   unfold ZaK
   rw [if_pos ⟨hju, e1⟩]
 ·have hin : ∀ {j : Nat} {r : List Int}, j < w.heap.size → ρ' j = 0 :: r → Part ρ [0] j := fun {j r} hj e => ⟨r, by rw [← h.later j hj, e]; rfl⟩
  refine ((h.fp.then_below hbW).trans hFg (fun j hj e => ?_)).trans hF10 (fun j hj e => ?_)
  ·exact hin hj (h.pool.arole j e)
  ·exact hin hj (by rw [e]; exact h.pool.role)
set_option maxRecDepth 100000 in
set_option maxHeartbeats 8000000 in
theorem ZkH (s : ByteArray) (w : World) (hS : PoolAt ρ w P x next v L) (hO : PoolOk x L) (hp : ZR s L = -1) (hf : (L.length : Int) < x.pools) (hq : 1 ≤ x.q ∧ x.q ≤ 64) (hnx : 0 ≤ next ∧ next < 900000000) (hlf : L.length < 1000000) :
 Calls Tryz.prog 9 #[.pointer (some ⟨P, 0, none⟩), .string s] w fun e w' => e = .returned (.int .i64 0) ∧ ∃ v' nb n, NewN s nb next n ∧ n.cls.length = x.classes ∧ Za2 ρ w P x (next + x.classes) v' (L ++ [n]) w' := by
 have HS := Lib.hid (hS.later (Zg ρ w))
 have HO := Lib.hid hO
 have HP := Lib.hid hp
 have HQ := Lib.hid hq
 have HNX := Lib.hid hnx
 have hfx : ¬ x.pools ≤ (L.length : Int) := by omega
 have HLF := Lib.hid (show L.length < 1000000 from hlf)
 have hcls := hO.cls
 have HLB0 := Lib.hid (show ∀ m ∈ L, m.blk < w.heap.size from fun m hm => by
  obtain ⟨i, hi⟩ := List.getElem?_of_mem hm
  exact Zb (hS.need i m hi).blk)
 clear hS hO hp hq hnx hf hlf
 go_enter Tryz.func9, Tryz.ntmps9
 go_wp2_with fail
 refine (Zbn s _ HS.out HO.out.few).mono ?_
 rintro e w1 ⟨rfl, hb1⟩
 rw [HP.out]
 have HB1 := Lib.hid hb1
 have hS1 := HS.out.below hb1
 obtain ⟨a, cap, hv, -⟩ := hS1.form
 have c4 : w1.cell? ⟨P, 4, none⟩ = some (.slice a L.length cap) := by rw [← hv]; exact Za hS1.head rfl
 have c0 : w1.cell? ⟨P, 0, none⟩ = some (.int .i64 x.pools) := Za hS1.head rfl
 have HS1 := Lib.hid hS1
 clear hb1 hS1 hv
 go_upto_region 7 with fail
 go_region
 clear c4 c0
 obtain ⟨w2, hw2⟩ : ∃ w2 : World, w2 = w1.drew := ⟨_, rfl⟩
 rw [← hw2]
 have HS2 := Lib.hid (show PoolAt (fence ρ w) w2 P x next v L by rw [hw2]; exact HS1.out.below ⟨rfl, rfl, rfl, Nat.le_refl _, fun _ _ => rfl⟩)
 have HB2 := Lib.hid (show Below w.heap.size w w2 by rw [hw2]; exact ZO HB1.out 1)
 clear hw2
 go_upto_region 10 with fail
 obtain ⟨w3, hw3⟩ : ∃ w3 : World, w3 = w2.alloc (pnO ⟨s, 1, w2.heap.size, .slice none 0 0, []⟩) := ⟨_, rfl⟩
 unfold pnO at hw3
 rw [← hw3]
 have HST := Lib.hid (ZlT HS2.out HB2.out hw3)
 obtain ⟨nb, hnb⟩ : ∃ nb : Nat, nb = w2.heap.size := ⟨_, rfl⟩
 rw [← hnb] at HST
 have HLB := Lib.hid (show ∀ m ∈ L, m.blk ≠ nb from fun m hm e => by have h1 := HLB0.out m hm; have h2 := HST.out.nb; omega)
 rw [← hnb]
 have c1 : w3.cell? ⟨P, 1, none⟩ = some (.int .i64 x.classes) := Za HST.out.pool.head rfl
 clear hw3 hnb
 go_wp2_with fail
 clear c1
 go_loopg [44] x.classes (fun g i wr => NRel ρ w P x next v L s nb g i wr)
 case atStart => exact ⟨0, _, _, rfl, rfl, Nat.zero_le _, HST.out⟩
 case round =>
  obtain ⟨k, ρ', n, hg, rfl, hk, hN⟩ := hrel
  have HG := Lib.hid hg
  have HN := Lib.hid hN
  clear hg hN
  by_cases hlt : k < x.classes
  ·have hkl : (k : Int) < (x.classes : Int) := by omega
   obtain ⟨an, capn, hcv, -⟩ := HN.out.need.form
   have hnbk := HN.out.new.2.2.1
   have n2 : wr.cell? ⟨nb, 2, none⟩ = some (.slice an n.cls.length capn) := by rw [← hcv, ← hnbk]; exact Za HN.out.need.blk rfl
   have p2 : wr.cell? ⟨P, 2, none⟩ = some (.int .i64 x.q) := Za HN.out.pool.head rfl
   have HCV := Lib.hid hcv
   have HSD := Lib.hid (HN.out.pool.below (w' := wr.drew) ⟨rfl, rfl, rfl, Nat.le_refl _, fun _ _ => rfl⟩)
   have HNK := Lib.hid (show 0 ≤ next + (k : Int) ∧ next + (k : Int) < 1000000000 by have := HNX.out; omega)
   clear hcv
   have HNP := Lib.hid (show nb ≠ P from fun e => by
    have h1 := HN.out.need.role
    rw [hnbk, e, HN.out.pool.role] at h1
    simp at h1)
   clear hnbk
   have HARR := Lib.hid (show ∀ w', Fp (fun j => j = P) wr.drew w' → ArrIn 73 w' (.slice an n.cls.length capn) (n.cls.map PC.blk) from fun w' hF => by
    rw [← HCV.out]
    exact (HN.out.need.arr.below (w' := wr.drew) ⟨rfl, rfl, rfl, Nat.le_refl _, fun _ _ => rfl⟩).frame hF (fun j hj e => by
     have h1 := HN.out.need.arole j hj
     rw [e, HN.out.pool.role] at h1
     simp at h1))
   have HNL := Lib.hid (show (n.cls.map PC.blk).length < 1000000 by rw [List.length_map, HN.out.need.len]; omega)
   have HNH := Lib.hid (show wr.heap[nb]? = some (pnO n) by rw [← HN.out.new.2.2.1]; exact HN.out.need.blk)
   have HNO := Lib.hid (show ∀ j, (Value.slice an n.cls.length capn).ownBlock = some j → nb ≠ j ∧ P ≠ j from fun j hj => by
    rw [← HCV.out] at hj
    have h1 := HN.out.need.arole j hj
    refine ⟨fun e => ?_, fun e => ?_⟩
    ·have h2 := HN.out.need.role
     rw [HN.out.new.2.2.1, e, h1] at h2
     simp at h2
    ·have h2 := HN.out.pool.role
     rw [e, h1] at h2
     simp at h2)
   have p3 : wr.frozen? ⟨nb, 2, none⟩ = false := by rw [← HN.out.new.2.2.1]; exact Zd HN.out.need.blk
   go_upto_region 12 with fail
   refine wp_region_noPanic ?_
   refine wp_region_held_drew (S := fun w' => w'.cell? ⟨P, 2, none⟩ = some (.int .i64 x.q)) (by kernel_rfl) p2 (fun hHeld => ?_)
   refine wpAnyH_take (i := 0) (oi := ⟨some 46, _, _, _, _, _⟩) (v := ?_) rfl (by kernel_rfl) (by kernel_rfl) (by kernel_rfl) (fun _ _ _ h => h) (Or.inl ⟨by rfl, ?_⟩) (by assumption) ?_
   rotate_left 1
   ·intro w hSw
    try dsimp only at hSw
    go_simp
    try with_reducible rfl
   try simp only [Act.put, List.setIfInBounds_toArray, List.set_cons_zero, List.set_cons_succ]
   refine wpAnyH_take (i := 1) (oi := ⟨some 47, _, _, _, _, _⟩) (v := ?_) rfl (by kernel_rfl) (by kernel_rfl) (by kernel_rfl) (fun _ _ _ h => h) (Or.inl ⟨by rfl, ?_⟩) (by assumption) ?_
   rotate_left 1
   ·intro w hSw
    try dsimp only at hSw
    go_simp
    try with_reducible rfl
   try simp only [Act.put, List.setIfInBounds_toArray, List.set_cons_zero, List.set_cons_succ]
   refine wpAnyH_take (i := 2) (oi := ⟨some 48, _, _, _, _, _⟩) (v := ?_) rfl (by kernel_rfl) (by kernel_rfl) (by kernel_rfl) (fun _ _ _ h => h) (Or.inl ⟨by rfl, ?_⟩) (by assumption) ?_
   rotate_left 1
   ·intro w hSw
    try dsimp only at hSw
    go_simp
    try with_reducible rfl
   try simp only [Act.put, List.setIfInBounds_toArray, List.set_cons_zero, List.set_cons_succ]
   refine wpAnyH_take (i := 3) (oi := ⟨some 49, _, _, _, _, _⟩) (v := ?_) rfl (by kernel_rfl) (by kernel_rfl) (by kernel_rfl) (fun _ _ _ h => h) (Or.inl ⟨by rfl, ?_⟩) (by assumption) ?_
   rotate_left 1
   ·intro w hSw
    try dsimp only at hSw
    go_simp
    try with_reducible rfl
   try simp only [Act.put, List.setIfInBounds_toArray, List.set_cons_zero, List.set_cons_succ]
   refine wpAnyH_take (i := 5) (oi := ⟨some 51, _, _, _, _, _⟩) (v := ?_) rfl (by kernel_rfl) (by kernel_rfl) (by kernel_rfl) (fun _ _ _ h => h) (Or.inl ⟨by rfl, ?_⟩) (by assumption) ?_
   rotate_left 1
   ·intro w hSw
    try dsimp only at hSw
    go_simp
    try with_reducible rfl
   try simp only [Act.put, List.setIfInBounds_toArray, List.set_cons_zero, List.set_cons_succ]
   refine wpAnyH_take (i := 7) (oi := ⟨some 53, _, _, _, _, _⟩) (v := ?_) rfl (by kernel_rfl) (by kernel_rfl) (by kernel_rfl) (fun _ _ _ h => h) (Or.inl ⟨by rfl, ?_⟩) (by assumption) ?_
   rotate_left 1
   ·intro w hSw
    try dsimp only at hSw
    go_simp
    try with_reducible rfl
   try simp only [Act.put, List.setIfInBounds_toArray, List.set_cons_zero, List.set_cons_succ]
   refine wpAnyH_take (i := 8) (oi := ⟨some 54, _, _, _, _, _⟩) (v := ?_) rfl (by kernel_rfl) (by kernel_rfl) (by kernel_rfl) (fun _ _ _ h => h) (Or.inl ⟨by rfl, ?_⟩) (by assumption) ?_
   rotate_left 1
   ·intro w hSw
    try dsimp only at hSw
    go_simp
    try with_reducible rfl
   try simp only [Act.put, List.setIfInBounds_toArray, List.set_cons_zero, List.set_cons_succ]
   refine wpAnyH_take (i := 9) (oi := ⟨some 55, _, _, _, _, _⟩) (v := ?_) rfl (by kernel_rfl) (by kernel_rfl) (by kernel_rfl) (fun _ _ _ h => h) (Or.inl ⟨by rfl, ?_⟩) (by assumption) ?_
   rotate_left 1
   ·intro w hSw
    try dsimp only at hSw
    go_simp
    try with_reducible rfl
   try simp only [Act.put, List.setIfInBounds_toArray, List.set_cons_zero, List.set_cons_succ]
   refine wpAnyH_take (i := 10) (oi := ⟨some 56, _, _, _, _, _⟩) (v := ?_) rfl (by kernel_rfl) (by kernel_rfl) (by kernel_rfl) (fun _ _ _ h => h) (Or.inl ⟨by rfl, ?_⟩) (by assumption) ?_
   rotate_left 1
   ·intro w hSw
    try dsimp only at hSw
    go_simp
    try with_reducible rfl
   try simp only [Act.put, List.setIfInBounds_toArray, List.set_cons_zero, List.set_cons_succ]
   refine wpAnyH_ready (rs := [4, 6]) (by kernel_rfl) (by simp) ?_
   refine (AllReadyH.cons (o := ⟨some 50, _, _, _, _, _⟩) rfl (fun K hK => ?_) (AllReadyH.cons (o := ⟨some 52, _, _, _, _, _⟩) rfl (fun K hK => ?_) AllReadyH.nil))
   ·go_simp
    refine hK.out _ _ (by first | exact m2 | exact k2 | exact q2 | exact p2 | (simp [go_sem]; first | exact m2 | exact k2) | exact ((Fp.refl (fun j => j = nb) w9).setCell (p := ⟨nb, 2, none⟩) (fun _ => rfl) _).cell q2 (fun e => HNP.out e.symm) | go_keep) (fun hHeld => ?_)
    clear hK K
    try simp only [Act.put, List.setIfInBounds_toArray, List.set_cons_zero, List.set_cons_succ]
    refine wpAnyH_ready (rs := [6]) (by kernel_rfl) (by simp) ?_
    refine (AllReadyH.cons (o := ⟨some 52, _, _, _, _, _⟩) rfl (fun K hK => ?_) AllReadyH.nil)
    go_simp
    refine (Zeq wr.drew HSD.out HNK.out).mono ?_
    rintro e w5 ⟨rfl, hF5, hh5⟩
    have m1 := hF5.cell (w := wr.drew) n2 HNP.out
    have m2 : w5.cell? ⟨P, 2, none⟩ = some (.int .i64 x.q) := Za hh5 rfl
    refine hK.out _ _ (by first | exact m2 | exact k2 | exact q2 | exact p2 | (simp [go_sem]; first | exact m2 | exact k2) | exact ((Fp.refl (fun j => j = nb) w9).setCell (p := ⟨nb, 2, none⟩) (fun _ => rfl) _).cell q2 (fun e => HNP.out e.symm) | go_keep) (fun hHeld => ?_)
    clear hK K
    try simp only [Act.put, List.setIfInBounds_toArray, List.set_cons_zero, List.set_cons_succ]
    refine wpAnyH_ready (rs := [11]) (by kernel_rfl) (by simp) ?_
    refine (AllReadyH.cons (o := ⟨some 57, _, _, _, _, _⟩) rfl (fun K hK => ?_) AllReadyH.nil)
    go_simp
    refine (ZbD x.q w5 HQ.out.1 HQ.out.2).mono ?_
    rintro e w7 ⟨rfl, hw6⟩
    obtain ⟨sp, hsp⟩ : ∃ k : Nat, k = w5.heap.size := ⟨_, rfl⟩
    rw [← hsp]
    have hb6 : Below w5.heap.size w5 w7 := by rw [hw6]; exact box_below.alloc (by simp) _
    have g1 : w7.heap[sp]? = some (.cells #[.int .i64 x.q, .slice none 0 0, .bool false] 115 (0, 0)) := by rw [hw6, hsp]; exact Zi Zf
    have g2 : w7.heap[sp + 1]? = some (.cells #[.pointer (some ⟨sp, 0, none⟩)] 117 (0, 0)) := by rw [hw6, hsp]; exact ZX _ _ _
    have hsl : wr.heap.size ≤ sp := by rw [hsp]; exact hF5.size
    have k1 := Zc (w := w5) hb6 m1
    have k2 := Zc (w := w5) hb6 m2
    have hFF : Fp (fun j => j = P) wr.drew w7 := hF5.then_below hb6
    have hh7 : w7.heap[P]? = some (ppO x (next + k + 1) v) := (hb6.block _ (Zb hh5)).trans hh5
    have b1 : ∀ o, (w7.alloc o).cell? ⟨nb, 2, none⟩ = some (.slice an n.cls.length capn) := fun o => Zc box_below k1
    have b2 : ∀ o o', ((w7.alloc o).alloc o').cell? ⟨nb, 2, none⟩ = some (.slice an n.cls.length capn) := fun o o' => Zc (box_below.alloc (by simp) _) k1
    clear hw6 hsp
    refine hK.out _ _ (by first | exact m2 | exact k2 | exact q2 | exact p2 | (simp [go_sem]; first | exact m2 | exact k2) | exact ((Fp.refl (fun j => j = nb) w9).setCell (p := ⟨nb, 2, none⟩) (fun _ => rfl) _).cell q2 (fun e => HNP.out e.symm) | go_keep) (fun hHeld => ?_)
    clear hK K
    try simp only [Act.put, List.setIfInBounds_toArray, List.set_cons_zero, List.set_cons_succ]
    refine wpAnyH_take (i := 12) (oi := ⟨some 58, _, _, _, _, _⟩) (v := ?_) rfl (by kernel_rfl) (by kernel_rfl) (by kernel_rfl) (fun _ _ _ h => h) (Or.inl ⟨by rfl, ?_⟩) (by assumption) ?_
    rotate_left 1
    ·intro w hSw
     try dsimp only at hSw
     go_simp
     try with_reducible rfl
    try simp only [Act.put, List.setIfInBounds_toArray, List.set_cons_zero, List.set_cons_succ]
    refine wpAnyH_ready (rs := [13]) (by kernel_rfl) (by simp) ?_
    refine (AllReadyH.cons (o := ⟨some 59, _, _, _, _, _⟩) rfl (fun K hK => ?_) AllReadyH.nil)
    go_simp
    refine hK.out _ _ (by first | exact m2 | exact k2 | exact q2 | exact p2 | (simp [go_sem]; first | exact m2 | exact k2) | exact ((Fp.refl (fun j => j = nb) w9).setCell (p := ⟨nb, 2, none⟩) (fun _ => rfl) _).cell q2 (fun e => HNP.out e.symm) | go_keep) (fun hHeld => ?_)
    clear hK K
    try simp only [Act.put, List.setIfInBounds_toArray, List.set_cons_zero, List.set_cons_succ]
    refine wpAnyH_ready (rs := [14]) (by kernel_rfl) (by simp) ?_
    refine (AllReadyH.cons (o := ⟨some 60, _, _, _, _, _⟩) rfl (fun K hK => ?_) AllReadyH.nil)
    go_simp
    refine hK.out _ _ (by first | exact m2 | exact k2 | exact q2 | exact p2 | (simp [go_sem]; first | exact m2 | exact k2) | exact ((Fp.refl (fun j => j = nb) w9).setCell (p := ⟨nb, 2, none⟩) (fun _ => rfl) _).cell q2 (fun e => HNP.out e.symm) | go_keep) (fun hHeld => ?_)
    clear hK K
    try simp only [Act.put, List.setIfInBounds_toArray, List.set_cons_zero, List.set_cons_succ]
    refine wpAnyH_ready (rs := [15]) (by kernel_rfl) (by simp) ?_
    refine (AllReadyH.cons (o := ⟨some 61, _, _, _, _, _⟩) rfl (fun K hK => ?_) AllReadyH.nil)
    refine Za9 (by rfl) _ _ 69 (by rfl) 73 Tryz.underlying69 Zb2 (.slice an n.cls.length capn) (n.cls.map PC.blk) (by rfl) (by exact (HARR.out w7 hFF).below (box_below.alloc (by simp) _)) (w7.heap.size + 1) w7.heap.size (by rfl) (by exact Za (ZX w7 _ _) rfl) HNL.out ?_
    intro v9 w9 hA9 hg9 hat9
    obtain ⟨a9, m9, c9, rfl⟩ : ∃ a m c, v9 = .slice a m c := (by obtain ⟨a3, c3, h3, -⟩ := hA9.form; exact ⟨a3, _, c3, h3⟩)
    have hF9 := (Fp.refl (fun j => (Value.slice an n.cls.length capn).ownBlock = some j) _).grown hg9 (fun _ _ e => e)
    have hP9 := hF9.heap (Zi (Zi hh7)) (fun e => (HNO.out P e).2 rfl)
    have hb9 := hF9.heap (Zi (Zi (hFF.heap (w := wr.drew) HNH.out HNP.out))) (fun e => (HNO.out nb e).1 rfl)
    have q2 : w9.cell? ⟨P, 2, none⟩ = some (.int .i64 x.q) := Za hP9 rfl
    have q1 : w9.cell? ⟨nb, 2, none⟩ = some (.slice an n.cls.length capn) := by rw [← HCV.out]; exact Za hb9 rfl
    have q3 : w9.frozen? ⟨nb, 2, none⟩ = false := Zd hb9
    refine hK.out _ _ (by first | exact m2 | exact k2 | exact q2 | exact p2 | (simp [go_sem]; first | exact m2 | exact k2) | exact ((Fp.refl (fun j => j = nb) w9).setCell (p := ⟨nb, 2, none⟩) (fun _ => rfl) _).cell q2 (fun e => HNP.out e.symm) | go_keep) (fun hHeld => ?_)
    clear hK K
    try simp only [Act.put, List.setIfInBounds_toArray, List.set_cons_zero, List.set_cons_succ]
    refine wpAnyH_take (i := 16) (oi := ⟨some 62, _, _, _, _, _⟩) (v := ?_) rfl (by kernel_rfl) (by kernel_rfl) (by kernel_rfl) (fun _ _ _ h => h) (Or.inl ⟨by rfl, ?_⟩) (by assumption) ?_
    rotate_left 1
    ·intro w hSw
     try dsimp only at hSw
     go_simp
     try with_reducible rfl
    try simp only [Act.put, List.setIfInBounds_toArray, List.set_cons_zero, List.set_cons_succ]
    refine wpAnyH_take (i := 17) (oi := ⟨some 63, _, _, _, _, _⟩) (v := ?_) rfl (by kernel_rfl) (by kernel_rfl) (by kernel_rfl) (fun _ _ _ h => h) (Or.inl ⟨by rfl, ?_⟩) (by assumption) ?_
    rotate_left 1
    ·intro w hSw
     try dsimp only at hSw
     go_simp
     try with_reducible rfl
    try simp only [Act.put, List.setIfInBounds_toArray, List.set_cons_zero, List.set_cons_succ]
    refine wpAnyH_ready (rs := [18]) (by kernel_rfl) (by simp) ?_
    refine (AllReadyH.cons (o := ⟨none, _, _, _, _, _⟩) rfl (fun K hK => ?_) AllReadyH.nil)
    go_simp
    refine hK.out _ _ (by first | exact m2 | exact k2 | exact q2 | exact p2 | (simp [go_sem]; first | exact m2 | exact k2) | exact ((Fp.refl (fun j => j = nb) w9).setCell (p := ⟨nb, 2, none⟩) (fun _ => rfl) _).cell q2 (fun e => HNP.out e.symm) | go_keep) (fun hHeld => ?_)
    clear hK K
    try simp only [Act.put, List.setIfInBounds_toArray, List.set_cons_zero, List.set_cons_succ]
    refine wpAnyH_done (by kernel_rfl) ?_ _
    refine NoPanic.normal ?_
    obtain ⟨w10, hw10⟩ : ∃ w10 : World, w10 = w9.setCell ⟨nb, 2, none⟩ (.slice a9 m9 c9) := ⟨_, rfl⟩
    try rw [← hw10]
    have HST2 := Lib.hid (ZcW HN.out HLB.out HQ.out ⟨hFF.os, hFF.tape, hFF.output, hFF.size, hFF.block⟩ hh7 g1 g2 hsl rfl hA9 (by rw [HCV.out]; exact hg9) (by rw [HCV.out]; exact hat9) hw10)
    clear hw10 hFF hh7 g1 g2 hsl hA9 hg9 hat9 hF9 hP9 hb9 q1 q2 q3 b1 b2 k1 k2 m1 m2 hb6 n2 p2 p3
    go_wp2_with fail
    go_roundg (x.classes - (k + 1))
    case rel => exact ⟨k + 1, _, _, rfl, by go_num, by omega, HST2.out⟩
    case measure => have := HG.out; omega
   ·go_simp
    refine (Zeq wr.drew HSD.out HNK.out).mono ?_
    rintro e w5 ⟨rfl, hF5, hh5⟩
    have m1 := hF5.cell (w := wr.drew) n2 HNP.out
    have m2 : w5.cell? ⟨P, 2, none⟩ = some (.int .i64 x.q) := Za hh5 rfl
    refine hK.out _ _ (by first | exact m2 | exact k2 | exact q2 | exact p2 | (simp [go_sem]; first | exact m2 | exact k2) | exact ((Fp.refl (fun j => j = nb) w9).setCell (p := ⟨nb, 2, none⟩) (fun _ => rfl) _).cell q2 (fun e => HNP.out e.symm) | go_keep) (fun hHeld => ?_)
    clear hK K
    try simp only [Act.put, List.setIfInBounds_toArray, List.set_cons_zero, List.set_cons_succ]
    refine wpAnyH_ready (rs := [4, 11]) (by kernel_rfl) (by simp) ?_
    refine (AllReadyH.cons (o := ⟨some 50, _, _, _, _, _⟩) rfl (fun K hK => ?_) (AllReadyH.cons (o := ⟨some 57, _, _, _, _, _⟩) rfl (fun K hK => ?_) AllReadyH.nil))
    ·go_simp
     refine hK.out _ _ (by first | exact m2 | exact k2 | exact q2 | exact p2 | (simp [go_sem]; first | exact m2 | exact k2) | exact ((Fp.refl (fun j => j = nb) w9).setCell (p := ⟨nb, 2, none⟩) (fun _ => rfl) _).cell q2 (fun e => HNP.out e.symm) | go_keep) (fun hHeld => ?_)
     clear hK K
     try simp only [Act.put, List.setIfInBounds_toArray, List.set_cons_zero, List.set_cons_succ]
     refine wpAnyH_ready (rs := [11]) (by kernel_rfl) (by simp) ?_
     refine (AllReadyH.cons (o := ⟨some 57, _, _, _, _, _⟩) rfl (fun K hK => ?_) AllReadyH.nil)
     go_simp
     refine (ZbD x.q w5 HQ.out.1 HQ.out.2).mono ?_
     rintro e w7 ⟨rfl, hw6⟩
     obtain ⟨sp, hsp⟩ : ∃ k : Nat, k = w5.heap.size := ⟨_, rfl⟩
     rw [← hsp]
     have hb6 : Below w5.heap.size w5 w7 := by rw [hw6]; exact box_below.alloc (by simp) _
     have g1 : w7.heap[sp]? = some (.cells #[.int .i64 x.q, .slice none 0 0, .bool false] 115 (0, 0)) := by rw [hw6, hsp]; exact Zi Zf
     have g2 : w7.heap[sp + 1]? = some (.cells #[.pointer (some ⟨sp, 0, none⟩)] 117 (0, 0)) := by rw [hw6, hsp]; exact ZX _ _ _
     have hsl : wr.heap.size ≤ sp := by rw [hsp]; exact hF5.size
     have k1 := Zc (w := w5) hb6 m1
     have k2 := Zc (w := w5) hb6 m2
     have hFF : Fp (fun j => j = P) wr.drew w7 := hF5.then_below hb6
     have hh7 : w7.heap[P]? = some (ppO x (next + k + 1) v) := (hb6.block _ (Zb hh5)).trans hh5
     have b1 : ∀ o, (w7.alloc o).cell? ⟨nb, 2, none⟩ = some (.slice an n.cls.length capn) := fun o => Zc box_below k1
     have b2 : ∀ o o', ((w7.alloc o).alloc o').cell? ⟨nb, 2, none⟩ = some (.slice an n.cls.length capn) := fun o o' => Zc (box_below.alloc (by simp) _) k1
     clear hw6 hsp
     refine hK.out _ _ (by first | exact m2 | exact k2 | exact q2 | exact p2 | (simp [go_sem]; first | exact m2 | exact k2) | exact ((Fp.refl (fun j => j = nb) w9).setCell (p := ⟨nb, 2, none⟩) (fun _ => rfl) _).cell q2 (fun e => HNP.out e.symm) | go_keep) (fun hHeld => ?_)
     clear hK K
     try simp only [Act.put, List.setIfInBounds_toArray, List.set_cons_zero, List.set_cons_succ]
     refine wpAnyH_take (i := 12) (oi := ⟨some 58, _, _, _, _, _⟩) (v := ?_) rfl (by kernel_rfl) (by kernel_rfl) (by kernel_rfl) (fun _ _ _ h => h) (Or.inl ⟨by rfl, ?_⟩) (by assumption) ?_
     rotate_left 1
     ·intro w hSw
      try dsimp only at hSw
      go_simp
      try with_reducible rfl
     try simp only [Act.put, List.setIfInBounds_toArray, List.set_cons_zero, List.set_cons_succ]
     refine wpAnyH_ready (rs := [13]) (by kernel_rfl) (by simp) ?_
     refine (AllReadyH.cons (o := ⟨some 59, _, _, _, _, _⟩) rfl (fun K hK => ?_) AllReadyH.nil)
     go_simp
     refine hK.out _ _ (by first | exact m2 | exact k2 | exact q2 | exact p2 | (simp [go_sem]; first | exact m2 | exact k2) | exact ((Fp.refl (fun j => j = nb) w9).setCell (p := ⟨nb, 2, none⟩) (fun _ => rfl) _).cell q2 (fun e => HNP.out e.symm) | go_keep) (fun hHeld => ?_)
     clear hK K
     try simp only [Act.put, List.setIfInBounds_toArray, List.set_cons_zero, List.set_cons_succ]
     refine wpAnyH_ready (rs := [14]) (by kernel_rfl) (by simp) ?_
     refine (AllReadyH.cons (o := ⟨some 60, _, _, _, _, _⟩) rfl (fun K hK => ?_) AllReadyH.nil)
     go_simp
     refine hK.out _ _ (by first | exact m2 | exact k2 | exact q2 | exact p2 | (simp [go_sem]; first | exact m2 | exact k2) | exact ((Fp.refl (fun j => j = nb) w9).setCell (p := ⟨nb, 2, none⟩) (fun _ => rfl) _).cell q2 (fun e => HNP.out e.symm) | go_keep) (fun hHeld => ?_)
     clear hK K
     try simp only [Act.put, List.setIfInBounds_toArray, List.set_cons_zero, List.set_cons_succ]
     refine wpAnyH_ready (rs := [15]) (by kernel_rfl) (by simp) ?_
     refine (AllReadyH.cons (o := ⟨some 61, _, _, _, _, _⟩) rfl (fun K hK => ?_) AllReadyH.nil)
     refine Za9 (by rfl) _ _ 69 (by rfl) 73 Tryz.underlying69 Zb2 (.slice an n.cls.length capn) (n.cls.map PC.blk) (by rfl) (by exact (HARR.out w7 hFF).below (box_below.alloc (by simp) _)) (w7.heap.size + 1) w7.heap.size (by rfl) (by exact Za (ZX w7 _ _) rfl) HNL.out ?_
     intro v9 w9 hA9 hg9 hat9
     obtain ⟨a9, m9, c9, rfl⟩ : ∃ a m c, v9 = .slice a m c := (by obtain ⟨a3, c3, h3, -⟩ := hA9.form; exact ⟨a3, _, c3, h3⟩)
     have hF9 := (Fp.refl (fun j => (Value.slice an n.cls.length capn).ownBlock = some j) _).grown hg9 (fun _ _ e => e)
     have hP9 := hF9.heap (Zi (Zi hh7)) (fun e => (HNO.out P e).2 rfl)
     have hb9 := hF9.heap (Zi (Zi (hFF.heap (w := wr.drew) HNH.out HNP.out))) (fun e => (HNO.out nb e).1 rfl)
     have q2 : w9.cell? ⟨P, 2, none⟩ = some (.int .i64 x.q) := Za hP9 rfl
     have q1 : w9.cell? ⟨nb, 2, none⟩ = some (.slice an n.cls.length capn) := by rw [← HCV.out]; exact Za hb9 rfl
     have q3 : w9.frozen? ⟨nb, 2, none⟩ = false := Zd hb9
     refine hK.out _ _ (by first | exact m2 | exact k2 | exact q2 | exact p2 | (simp [go_sem]; first | exact m2 | exact k2) | exact ((Fp.refl (fun j => j = nb) w9).setCell (p := ⟨nb, 2, none⟩) (fun _ => rfl) _).cell q2 (fun e => HNP.out e.symm) | go_keep) (fun hHeld => ?_)
     clear hK K
     try simp only [Act.put, List.setIfInBounds_toArray, List.set_cons_zero, List.set_cons_succ]
     refine wpAnyH_take (i := 16) (oi := ⟨some 62, _, _, _, _, _⟩) (v := ?_) rfl (by kernel_rfl) (by kernel_rfl) (by kernel_rfl) (fun _ _ _ h => h) (Or.inl ⟨by rfl, ?_⟩) (by assumption) ?_
     rotate_left 1
     ·intro w hSw
      try dsimp only at hSw
      go_simp
      try with_reducible rfl
     try simp only [Act.put, List.setIfInBounds_toArray, List.set_cons_zero, List.set_cons_succ]
     refine wpAnyH_take (i := 17) (oi := ⟨some 63, _, _, _, _, _⟩) (v := ?_) rfl (by kernel_rfl) (by kernel_rfl) (by kernel_rfl) (fun _ _ _ h => h) (Or.inl ⟨by rfl, ?_⟩) (by assumption) ?_
     rotate_left 1
     ·intro w hSw
      try dsimp only at hSw
      go_simp
      try with_reducible rfl
     try simp only [Act.put, List.setIfInBounds_toArray, List.set_cons_zero, List.set_cons_succ]
     refine wpAnyH_ready (rs := [18]) (by kernel_rfl) (by simp) ?_
     refine (AllReadyH.cons (o := ⟨none, _, _, _, _, _⟩) rfl (fun K hK => ?_) AllReadyH.nil)
     go_simp
     refine hK.out _ _ (by first | exact m2 | exact k2 | exact q2 | exact p2 | (simp [go_sem]; first | exact m2 | exact k2) | exact ((Fp.refl (fun j => j = nb) w9).setCell (p := ⟨nb, 2, none⟩) (fun _ => rfl) _).cell q2 (fun e => HNP.out e.symm) | go_keep) (fun hHeld => ?_)
     clear hK K
     try simp only [Act.put, List.setIfInBounds_toArray, List.set_cons_zero, List.set_cons_succ]
     refine wpAnyH_done (by kernel_rfl) ?_ _
     refine NoPanic.normal ?_
     obtain ⟨w10, hw10⟩ : ∃ w10 : World, w10 = w9.setCell ⟨nb, 2, none⟩ (.slice a9 m9 c9) := ⟨_, rfl⟩
     try rw [← hw10]
     have HST2 := Lib.hid (ZcW HN.out HLB.out HQ.out ⟨hFF.os, hFF.tape, hFF.output, hFF.size, hFF.block⟩ hh7 g1 g2 hsl rfl hA9 (by rw [HCV.out]; exact hg9) (by rw [HCV.out]; exact hat9) hw10)
     clear hw10 hFF hh7 g1 g2 hsl hA9 hg9 hat9 hF9 hP9 hb9 q1 q2 q3 b1 b2 k1 k2 m1 m2 hb6 n2 p2 p3
     go_wp2_with fail
     go_roundg (x.classes - (k + 1))
     case rel => exact ⟨k + 1, _, _, rfl, by go_num, by omega, HST2.out⟩
     case measure => have := HG.out; omega
    ·go_simp
     refine (ZbD x.q w5 HQ.out.1 HQ.out.2).mono ?_
     rintro e w7 ⟨rfl, hw6⟩
     obtain ⟨sp, hsp⟩ : ∃ k : Nat, k = w5.heap.size := ⟨_, rfl⟩
     rw [← hsp]
     have hb6 : Below w5.heap.size w5 w7 := by rw [hw6]; exact box_below.alloc (by simp) _
     have g1 : w7.heap[sp]? = some (.cells #[.int .i64 x.q, .slice none 0 0, .bool false] 115 (0, 0)) := by rw [hw6, hsp]; exact Zi Zf
     have g2 : w7.heap[sp + 1]? = some (.cells #[.pointer (some ⟨sp, 0, none⟩)] 117 (0, 0)) := by rw [hw6, hsp]; exact ZX _ _ _
     have hsl : wr.heap.size ≤ sp := by rw [hsp]; exact hF5.size
     have k1 := Zc (w := w5) hb6 m1
     have k2 := Zc (w := w5) hb6 m2
     have hFF : Fp (fun j => j = P) wr.drew w7 := hF5.then_below hb6
     have hh7 : w7.heap[P]? = some (ppO x (next + k + 1) v) := (hb6.block _ (Zb hh5)).trans hh5
     have b1 : ∀ o, (w7.alloc o).cell? ⟨nb, 2, none⟩ = some (.slice an n.cls.length capn) := fun o => Zc box_below k1
     have b2 : ∀ o o', ((w7.alloc o).alloc o').cell? ⟨nb, 2, none⟩ = some (.slice an n.cls.length capn) := fun o o' => Zc (box_below.alloc (by simp) _) k1
     clear hw6 hsp
     refine hK.out _ _ (by first | exact m2 | exact k2 | exact q2 | exact p2 | (simp [go_sem]; first | exact m2 | exact k2) | exact ((Fp.refl (fun j => j = nb) w9).setCell (p := ⟨nb, 2, none⟩) (fun _ => rfl) _).cell q2 (fun e => HNP.out e.symm) | go_keep) (fun hHeld => ?_)
     clear hK K
     try simp only [Act.put, List.setIfInBounds_toArray, List.set_cons_zero, List.set_cons_succ]
     refine wpAnyH_take (i := 12) (oi := ⟨some 58, _, _, _, _, _⟩) (v := ?_) rfl (by kernel_rfl) (by kernel_rfl) (by kernel_rfl) (fun _ _ _ h => h) (Or.inl ⟨by rfl, ?_⟩) (by assumption) ?_
     rotate_left 1
     ·intro w hSw
      try dsimp only at hSw
      go_simp
      try with_reducible rfl
     try simp only [Act.put, List.setIfInBounds_toArray, List.set_cons_zero, List.set_cons_succ]
     refine wpAnyH_ready (rs := [4, 13]) (by kernel_rfl) (by simp) ?_
     refine (AllReadyH.cons (o := ⟨some 50, _, _, _, _, _⟩) rfl (fun K hK => ?_) (AllReadyH.cons (o := ⟨some 59, _, _, _, _, _⟩) rfl (fun K hK => ?_) AllReadyH.nil))
     ·go_simp
      refine hK.out _ _ (by first | exact m2 | exact k2 | exact q2 | exact p2 | (simp [go_sem]; first | exact m2 | exact k2) | exact ((Fp.refl (fun j => j = nb) w9).setCell (p := ⟨nb, 2, none⟩) (fun _ => rfl) _).cell q2 (fun e => HNP.out e.symm) | go_keep) (fun hHeld => ?_)
      clear hK K
      try simp only [Act.put, List.setIfInBounds_toArray, List.set_cons_zero, List.set_cons_succ]
      refine wpAnyH_ready (rs := [13]) (by kernel_rfl) (by simp) ?_
      refine (AllReadyH.cons (o := ⟨some 59, _, _, _, _, _⟩) rfl (fun K hK => ?_) AllReadyH.nil)
      go_simp
      refine hK.out _ _ (by first | exact m2 | exact k2 | exact q2 | exact p2 | (simp [go_sem]; first | exact m2 | exact k2) | exact ((Fp.refl (fun j => j = nb) w9).setCell (p := ⟨nb, 2, none⟩) (fun _ => rfl) _).cell q2 (fun e => HNP.out e.symm) | go_keep) (fun hHeld => ?_)
      clear hK K
      try simp only [Act.put, List.setIfInBounds_toArray, List.set_cons_zero, List.set_cons_succ]
      refine wpAnyH_ready (rs := [14]) (by kernel_rfl) (by simp) ?_
      refine (AllReadyH.cons (o := ⟨some 60, _, _, _, _, _⟩) rfl (fun K hK => ?_) AllReadyH.nil)
      go_simp
      refine hK.out _ _ (by first | exact m2 | exact k2 | exact q2 | exact p2 | (simp [go_sem]; first | exact m2 | exact k2) | exact ((Fp.refl (fun j => j = nb) w9).setCell (p := ⟨nb, 2, none⟩) (fun _ => rfl) _).cell q2 (fun e => HNP.out e.symm) | go_keep) (fun hHeld => ?_)
      clear hK K
      try simp only [Act.put, List.setIfInBounds_toArray, List.set_cons_zero, List.set_cons_succ]
      refine wpAnyH_ready (rs := [15]) (by kernel_rfl) (by simp) ?_
      refine (AllReadyH.cons (o := ⟨some 61, _, _, _, _, _⟩) rfl (fun K hK => ?_) AllReadyH.nil)
      refine Za9 (by rfl) _ _ 69 (by rfl) 73 Tryz.underlying69 Zb2 (.slice an n.cls.length capn) (n.cls.map PC.blk) (by rfl) (by exact (HARR.out w7 hFF).below (box_below.alloc (by simp) _)) (w7.heap.size + 1) w7.heap.size (by rfl) (by exact Za (ZX w7 _ _) rfl) HNL.out ?_
      intro v9 w9 hA9 hg9 hat9
      obtain ⟨a9, m9, c9, rfl⟩ : ∃ a m c, v9 = .slice a m c := (by obtain ⟨a3, c3, h3, -⟩ := hA9.form; exact ⟨a3, _, c3, h3⟩)
      have hF9 := (Fp.refl (fun j => (Value.slice an n.cls.length capn).ownBlock = some j) _).grown hg9 (fun _ _ e => e)
      have hP9 := hF9.heap (Zi (Zi hh7)) (fun e => (HNO.out P e).2 rfl)
      have hb9 := hF9.heap (Zi (Zi (hFF.heap (w := wr.drew) HNH.out HNP.out))) (fun e => (HNO.out nb e).1 rfl)
      have q2 : w9.cell? ⟨P, 2, none⟩ = some (.int .i64 x.q) := Za hP9 rfl
      have q1 : w9.cell? ⟨nb, 2, none⟩ = some (.slice an n.cls.length capn) := by rw [← HCV.out]; exact Za hb9 rfl
      have q3 : w9.frozen? ⟨nb, 2, none⟩ = false := Zd hb9
      refine hK.out _ _ (by first | exact m2 | exact k2 | exact q2 | exact p2 | (simp [go_sem]; first | exact m2 | exact k2) | exact ((Fp.refl (fun j => j = nb) w9).setCell (p := ⟨nb, 2, none⟩) (fun _ => rfl) _).cell q2 (fun e => HNP.out e.symm) | go_keep) (fun hHeld => ?_)
      clear hK K
      try simp only [Act.put, List.setIfInBounds_toArray, List.set_cons_zero, List.set_cons_succ]
      refine wpAnyH_take (i := 16) (oi := ⟨some 62, _, _, _, _, _⟩) (v := ?_) rfl (by kernel_rfl) (by kernel_rfl) (by kernel_rfl) (fun _ _ _ h => h) (Or.inl ⟨by rfl, ?_⟩) (by assumption) ?_
      rotate_left 1
      ·intro w hSw
       try dsimp only at hSw
       go_simp
       try with_reducible rfl
      try simp only [Act.put, List.setIfInBounds_toArray, List.set_cons_zero, List.set_cons_succ]
      refine wpAnyH_take (i := 17) (oi := ⟨some 63, _, _, _, _, _⟩) (v := ?_) rfl (by kernel_rfl) (by kernel_rfl) (by kernel_rfl) (fun _ _ _ h => h) (Or.inl ⟨by rfl, ?_⟩) (by assumption) ?_
      rotate_left 1
      ·intro w hSw
       try dsimp only at hSw
       go_simp
       try with_reducible rfl
      try simp only [Act.put, List.setIfInBounds_toArray, List.set_cons_zero, List.set_cons_succ]
      refine wpAnyH_ready (rs := [18]) (by kernel_rfl) (by simp) ?_
      refine (AllReadyH.cons (o := ⟨none, _, _, _, _, _⟩) rfl (fun K hK => ?_) AllReadyH.nil)
      go_simp
      refine hK.out _ _ (by first | exact m2 | exact k2 | exact q2 | exact p2 | (simp [go_sem]; first | exact m2 | exact k2) | exact ((Fp.refl (fun j => j = nb) w9).setCell (p := ⟨nb, 2, none⟩) (fun _ => rfl) _).cell q2 (fun e => HNP.out e.symm) | go_keep) (fun hHeld => ?_)
      clear hK K
      try simp only [Act.put, List.setIfInBounds_toArray, List.set_cons_zero, List.set_cons_succ]
      refine wpAnyH_done (by kernel_rfl) ?_ _
      refine NoPanic.normal ?_
      obtain ⟨w10, hw10⟩ : ∃ w10 : World, w10 = w9.setCell ⟨nb, 2, none⟩ (.slice a9 m9 c9) := ⟨_, rfl⟩
      try rw [← hw10]
      have HST2 := Lib.hid (ZcW HN.out HLB.out HQ.out ⟨hFF.os, hFF.tape, hFF.output, hFF.size, hFF.block⟩ hh7 g1 g2 hsl rfl hA9 (by rw [HCV.out]; exact hg9) (by rw [HCV.out]; exact hat9) hw10)
      clear hw10 hFF hh7 g1 g2 hsl hA9 hg9 hat9 hF9 hP9 hb9 q1 q2 q3 b1 b2 k1 k2 m1 m2 hb6 n2 p2 p3
      go_wp2_with fail
      go_roundg (x.classes - (k + 1))
      case rel => exact ⟨k + 1, _, _, rfl, by go_num, by omega, HST2.out⟩
      case measure => have := HG.out; omega
     ·go_simp
      refine hK.out _ _ (by first | exact m2 | exact k2 | exact q2 | exact p2 | (simp [go_sem]; first | exact m2 | exact k2) | exact ((Fp.refl (fun j => j = nb) w9).setCell (p := ⟨nb, 2, none⟩) (fun _ => rfl) _).cell q2 (fun e => HNP.out e.symm) | go_keep) (fun hHeld => ?_)
      clear hK K
      try simp only [Act.put, List.setIfInBounds_toArray, List.set_cons_zero, List.set_cons_succ]
      refine wpAnyH_ready (rs := [4, 14]) (by kernel_rfl) (by simp) ?_
      refine (AllReadyH.cons (o := ⟨some 50, _, _, _, _, _⟩) rfl (fun K hK => ?_) (AllReadyH.cons (o := ⟨some 60, _, _, _, _, _⟩) rfl (fun K hK => ?_) AllReadyH.nil))
      ·go_simp
       refine hK.out _ _ (by first | exact m2 | exact k2 | exact q2 | exact p2 | (simp [go_sem]; first | exact m2 | exact k2) | exact ((Fp.refl (fun j => j = nb) w9).setCell (p := ⟨nb, 2, none⟩) (fun _ => rfl) _).cell q2 (fun e => HNP.out e.symm) | go_keep) (fun hHeld => ?_)
       clear hK K
       try simp only [Act.put, List.setIfInBounds_toArray, List.set_cons_zero, List.set_cons_succ]
       refine wpAnyH_ready (rs := [14]) (by kernel_rfl) (by simp) ?_
       refine (AllReadyH.cons (o := ⟨some 60, _, _, _, _, _⟩) rfl (fun K hK => ?_) AllReadyH.nil)
       go_simp
       refine hK.out _ _ (by first | exact m2 | exact k2 | exact q2 | exact p2 | (simp [go_sem]; first | exact m2 | exact k2) | exact ((Fp.refl (fun j => j = nb) w9).setCell (p := ⟨nb, 2, none⟩) (fun _ => rfl) _).cell q2 (fun e => HNP.out e.symm) | go_keep) (fun hHeld => ?_)
       clear hK K
       try simp only [Act.put, List.setIfInBounds_toArray, List.set_cons_zero, List.set_cons_succ]
       refine wpAnyH_ready (rs := [15]) (by kernel_rfl) (by simp) ?_
       refine (AllReadyH.cons (o := ⟨some 61, _, _, _, _, _⟩) rfl (fun K hK => ?_) AllReadyH.nil)
       refine Za9 (by rfl) _ _ 69 (by rfl) 73 Tryz.underlying69 Zb2 (.slice an n.cls.length capn) (n.cls.map PC.blk) (by rfl) (by exact (HARR.out w7 hFF).below (box_below.alloc (by simp) _)) (w7.heap.size + 1) w7.heap.size (by rfl) (by exact Za (ZX w7 _ _) rfl) HNL.out ?_
       intro v9 w9 hA9 hg9 hat9
       obtain ⟨a9, m9, c9, rfl⟩ : ∃ a m c, v9 = .slice a m c := (by obtain ⟨a3, c3, h3, -⟩ := hA9.form; exact ⟨a3, _, c3, h3⟩)
       have hF9 := (Fp.refl (fun j => (Value.slice an n.cls.length capn).ownBlock = some j) _).grown hg9 (fun _ _ e => e)
       have hP9 := hF9.heap (Zi (Zi hh7)) (fun e => (HNO.out P e).2 rfl)
       have hb9 := hF9.heap (Zi (Zi (hFF.heap (w := wr.drew) HNH.out HNP.out))) (fun e => (HNO.out nb e).1 rfl)
       have q2 : w9.cell? ⟨P, 2, none⟩ = some (.int .i64 x.q) := Za hP9 rfl
       have q1 : w9.cell? ⟨nb, 2, none⟩ = some (.slice an n.cls.length capn) := by rw [← HCV.out]; exact Za hb9 rfl
       have q3 : w9.frozen? ⟨nb, 2, none⟩ = false := Zd hb9
       refine hK.out _ _ (by first | exact m2 | exact k2 | exact q2 | exact p2 | (simp [go_sem]; first | exact m2 | exact k2) | exact ((Fp.refl (fun j => j = nb) w9).setCell (p := ⟨nb, 2, none⟩) (fun _ => rfl) _).cell q2 (fun e => HNP.out e.symm) | go_keep) (fun hHeld => ?_)
       clear hK K
       try simp only [Act.put, List.setIfInBounds_toArray, List.set_cons_zero, List.set_cons_succ]
       refine wpAnyH_take (i := 16) (oi := ⟨some 62, _, _, _, _, _⟩) (v := ?_) rfl (by kernel_rfl) (by kernel_rfl) (by kernel_rfl) (fun _ _ _ h => h) (Or.inl ⟨by rfl, ?_⟩) (by assumption) ?_
       rotate_left 1
       ·intro w hSw
        try dsimp only at hSw
        go_simp
        try with_reducible rfl
       try simp only [Act.put, List.setIfInBounds_toArray, List.set_cons_zero, List.set_cons_succ]
       refine wpAnyH_take (i := 17) (oi := ⟨some 63, _, _, _, _, _⟩) (v := ?_) rfl (by kernel_rfl) (by kernel_rfl) (by kernel_rfl) (fun _ _ _ h => h) (Or.inl ⟨by rfl, ?_⟩) (by assumption) ?_
       rotate_left 1
       ·intro w hSw
        try dsimp only at hSw
        go_simp
        try with_reducible rfl
       try simp only [Act.put, List.setIfInBounds_toArray, List.set_cons_zero, List.set_cons_succ]
       refine wpAnyH_ready (rs := [18]) (by kernel_rfl) (by simp) ?_
       refine (AllReadyH.cons (o := ⟨none, _, _, _, _, _⟩) rfl (fun K hK => ?_) AllReadyH.nil)
       go_simp
       refine hK.out _ _ (by first | exact m2 | exact k2 | exact q2 | exact p2 | (simp [go_sem]; first | exact m2 | exact k2) | exact ((Fp.refl (fun j => j = nb) w9).setCell (p := ⟨nb, 2, none⟩) (fun _ => rfl) _).cell q2 (fun e => HNP.out e.symm) | go_keep) (fun hHeld => ?_)
       clear hK K
       try simp only [Act.put, List.setIfInBounds_toArray, List.set_cons_zero, List.set_cons_succ]
       refine wpAnyH_done (by kernel_rfl) ?_ _
       refine NoPanic.normal ?_
       obtain ⟨w10, hw10⟩ : ∃ w10 : World, w10 = w9.setCell ⟨nb, 2, none⟩ (.slice a9 m9 c9) := ⟨_, rfl⟩
       try rw [← hw10]
       have HST2 := Lib.hid (ZcW HN.out HLB.out HQ.out ⟨hFF.os, hFF.tape, hFF.output, hFF.size, hFF.block⟩ hh7 g1 g2 hsl rfl hA9 (by rw [HCV.out]; exact hg9) (by rw [HCV.out]; exact hat9) hw10)
       clear hw10 hFF hh7 g1 g2 hsl hA9 hg9 hat9 hF9 hP9 hb9 q1 q2 q3 b1 b2 k1 k2 m1 m2 hb6 n2 p2 p3
       go_wp2_with fail
       go_roundg (x.classes - (k + 1))
       case rel => exact ⟨k + 1, _, _, rfl, by go_num, by omega, HST2.out⟩
       case measure => have := HG.out; omega
      ·go_simp
       refine hK.out _ _ (by first | exact m2 | exact k2 | exact q2 | exact p2 | (simp [go_sem]; first | exact m2 | exact k2) | exact ((Fp.refl (fun j => j = nb) w9).setCell (p := ⟨nb, 2, none⟩) (fun _ => rfl) _).cell q2 (fun e => HNP.out e.symm) | go_keep) (fun hHeld => ?_)
       clear hK K
       try simp only [Act.put, List.setIfInBounds_toArray, List.set_cons_zero, List.set_cons_succ]
       refine wpAnyH_ready (rs := [4]) (by kernel_rfl) (by simp) ?_
       refine (AllReadyH.cons (o := ⟨some 50, _, _, _, _, _⟩) rfl (fun K hK => ?_) AllReadyH.nil)
       go_simp
       refine hK.out _ _ (by first | exact m2 | exact k2 | exact q2 | exact p2 | (simp [go_sem]; first | exact m2 | exact k2) | exact ((Fp.refl (fun j => j = nb) w9).setCell (p := ⟨nb, 2, none⟩) (fun _ => rfl) _).cell q2 (fun e => HNP.out e.symm) | go_keep) (fun hHeld => ?_)
       clear hK K
       try simp only [Act.put, List.setIfInBounds_toArray, List.set_cons_zero, List.set_cons_succ]
       refine wpAnyH_ready (rs := [15]) (by kernel_rfl) (by simp) ?_
       refine (AllReadyH.cons (o := ⟨some 61, _, _, _, _, _⟩) rfl (fun K hK => ?_) AllReadyH.nil)
       refine Za9 (by rfl) _ _ 69 (by rfl) 73 Tryz.underlying69 Zb2 (.slice an n.cls.length capn) (n.cls.map PC.blk) (by rfl) (by exact (HARR.out w7 hFF).below (box_below.alloc (by simp) _)) (w7.heap.size + 1) w7.heap.size (by rfl) (by exact Za (ZX w7 _ _) rfl) HNL.out ?_
       intro v9 w9 hA9 hg9 hat9
       obtain ⟨a9, m9, c9, rfl⟩ : ∃ a m c, v9 = .slice a m c := (by obtain ⟨a3, c3, h3, -⟩ := hA9.form; exact ⟨a3, _, c3, h3⟩)
       have hF9 := (Fp.refl (fun j => (Value.slice an n.cls.length capn).ownBlock = some j) _).grown hg9 (fun _ _ e => e)
       have hP9 := hF9.heap (Zi (Zi hh7)) (fun e => (HNO.out P e).2 rfl)
       have hb9 := hF9.heap (Zi (Zi (hFF.heap (w := wr.drew) HNH.out HNP.out))) (fun e => (HNO.out nb e).1 rfl)
       have q2 : w9.cell? ⟨P, 2, none⟩ = some (.int .i64 x.q) := Za hP9 rfl
       have q1 : w9.cell? ⟨nb, 2, none⟩ = some (.slice an n.cls.length capn) := by rw [← HCV.out]; exact Za hb9 rfl
       have q3 : w9.frozen? ⟨nb, 2, none⟩ = false := Zd hb9
       refine hK.out _ _ (by first | exact m2 | exact k2 | exact q2 | exact p2 | (simp [go_sem]; first | exact m2 | exact k2) | exact ((Fp.refl (fun j => j = nb) w9).setCell (p := ⟨nb, 2, none⟩) (fun _ => rfl) _).cell q2 (fun e => HNP.out e.symm) | go_keep) (fun hHeld => ?_)
       clear hK K
       try simp only [Act.put, List.setIfInBounds_toArray, List.set_cons_zero, List.set_cons_succ]
       refine wpAnyH_take (i := 16) (oi := ⟨some 62, _, _, _, _, _⟩) (v := ?_) rfl (by kernel_rfl) (by kernel_rfl) (by kernel_rfl) (fun _ _ _ h => h) (Or.inl ⟨by rfl, ?_⟩) (by assumption) ?_
       rotate_left 1
       ·intro w hSw
        try dsimp only at hSw
        go_simp
        try with_reducible rfl
       try simp only [Act.put, List.setIfInBounds_toArray, List.set_cons_zero, List.set_cons_succ]
       refine wpAnyH_take (i := 17) (oi := ⟨some 63, _, _, _, _, _⟩) (v := ?_) rfl (by kernel_rfl) (by kernel_rfl) (by kernel_rfl) (fun _ _ _ h => h) (Or.inl ⟨by rfl, ?_⟩) (by assumption) ?_
       rotate_left 1
       ·intro w hSw
        try dsimp only at hSw
        go_simp
        try with_reducible rfl
       try simp only [Act.put, List.setIfInBounds_toArray, List.set_cons_zero, List.set_cons_succ]
       refine wpAnyH_ready (rs := [18]) (by kernel_rfl) (by simp) ?_
       refine (AllReadyH.cons (o := ⟨none, _, _, _, _, _⟩) rfl (fun K hK => ?_) AllReadyH.nil)
       go_simp
       refine hK.out _ _ (by first | exact m2 | exact k2 | exact q2 | exact p2 | (simp [go_sem]; first | exact m2 | exact k2) | exact ((Fp.refl (fun j => j = nb) w9).setCell (p := ⟨nb, 2, none⟩) (fun _ => rfl) _).cell q2 (fun e => HNP.out e.symm) | go_keep) (fun hHeld => ?_)
       clear hK K
       try simp only [Act.put, List.setIfInBounds_toArray, List.set_cons_zero, List.set_cons_succ]
       refine wpAnyH_done (by kernel_rfl) ?_ _
       refine NoPanic.normal ?_
       obtain ⟨w10, hw10⟩ : ∃ w10 : World, w10 = w9.setCell ⟨nb, 2, none⟩ (.slice a9 m9 c9) := ⟨_, rfl⟩
       try rw [← hw10]
       have HST2 := Lib.hid (ZcW HN.out HLB.out HQ.out ⟨hFF.os, hFF.tape, hFF.output, hFF.size, hFF.block⟩ hh7 g1 g2 hsl rfl hA9 (by rw [HCV.out]; exact hg9) (by rw [HCV.out]; exact hat9) hw10)
       clear hw10 hFF hh7 g1 g2 hsl hA9 hg9 hat9 hF9 hP9 hb9 q1 q2 q3 b1 b2 k1 k2 m1 m2 hb6 n2 p2 p3
       go_wp2_with fail
       go_roundg (x.classes - (k + 1))
       case rel => exact ⟨k + 1, _, _, rfl, by go_num, by omega, HST2.out⟩
       case measure => have := HG.out; omega
  ·obtain rfl : k = x.classes := by omega
   obtain ⟨av, capv, hvv, -⟩ := HN.out.pool.form
   have c4 : wr.cell? ⟨P, 4, none⟩ = some (.slice av L.length capv) := by rw [← hvv]; exact Za HN.out.pool.head rfl
   have HVV := Lib.hid hvv
   have hfew := HO.out.few
   have HARR := Lib.hid (show ∀ o, ArrIn 72 (wr.alloc o) (.slice av L.length capv) (L.map PN.blk) from fun o => by rw [← HVV.out]; exact HN.out.pool.arr.below box_below)
   have hnl : (L.map PN.blk).length < 1000000 := by rw [List.length_map]; have := HLF.out; omega
   clear hvv
   go_upto_region 15 with (refine Zax rfl _ _ 65 rfl 72 Tryz.underlying65 Zgg (v := .slice av L.length capv) (bs := L.map PN.blk) (by rfl) (by exact HARR.out _) wr.heap.size nb (by rfl) (by exact Za Zf rfl) hnl ?_; intro v9 w9 hA9 hg9 hat9; obtain ⟨a9, m9, c9, rfl⟩ : ∃ a m c, v9 = .slice a m c := (by obtain ⟨a3, c3, h3, -⟩ := hA9.form; exact ⟨a3, _, c3, h3⟩); (have hF9 := (Fp.refl (fun j => (Value.slice av L.length capv).ownBlock = some j) _).grown hg9 (fun _ _ e => e)); (have hP9 := hF9.heap (Zi HN.out.pool.head) (fun e => by rw [← HVV.out] at e; have h1 := HN.out.pool.arole P e; rw [HN.out.pool.role] at h1; simp at h1)); (have q1 : w9.cell? ⟨P, 4, none⟩ = some v := Za hP9 rfl); (have q3 : w9.frozen? ⟨P, 4, none⟩ = false := Zd hP9))
   obtain ⟨w10, hw10⟩ : ∃ w10 : World, w10 = w9.setCell ⟨P, 4, none⟩ (.slice a9 m9 c9) := ⟨_, rfl⟩
   rw [← hw10]
   have HT := Lib.hid (Znd HN.out HLB.out rfl hA9 (by rw [HVV.out]; exact hg9) (by rw [HVV.out]; exact hat9) hw10)
   clear hw10 hA9 hg9 hat9 hF9 hP9 q1 q3 c4
   go_wp2_with fail
   go_ret
   exact ⟨rfl, _, nb, n, HN.out.new, HN.out.need.len, HT.out⟩
end
end Go.Proofs.YtdbjihkgafhakaaGreatDoor
