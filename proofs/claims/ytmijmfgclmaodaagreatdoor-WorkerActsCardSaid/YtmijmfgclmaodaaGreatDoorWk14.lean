/-
  One contract for each method of a book, of the program and of the document; two books side by side.
-/
import Derived.Test.YtmijmfgclmaodaaGreatDoorWk13
namespace Go.Proofs.YtmijmfgclmaodaaGreatDoor
open Go.RowKit

/-- What a call makes of a book, and what it tells. -/
def hasNo (s : Bk) (no : Int) : Bool := decide (0 ≤ findI (noB no) s.ws)
def updS (s : Bk) (no : Int) (f : Wk → Wk) : Bk := if 0 ≤ findI (noB no) s.ws then setS s (findI (noB no) s.ws).toNat (f (atW s.ws (findI (noB no) s.ws))) else s
def canGive (s : Bk) (no op : Int) : Bool := hasNo s no && ((atW s.ws (findI (noB no) s.ws)).op == 0 && decide (1 ≤ op))
def giveS (s : Bk) (no op : Int) : Bk := if canGive s no op = true then updS s no (fun y => { y with op := op }) else s
def canFree (s : Bk) (no : Int) : Bool := hasNo s no && (atW s.ws (findI (noB no) s.ws)).op != 0
def freeS (s : Bk) (no : Int) : Bk := updS s no (fun y => { y with op := 0 })
def remS (s : Bk) (no : Int) : Bk := if 0 ≤ findI (noB no) s.ws then delS s (findI (noB no) s.ws).toNat else s
def addN (s : Bk) (x : Wk) : Int := if mayE s x = 0 then s.last + 1 else 0
def addU (s : Bk) (x : Wk) : Bk := if mayE s x = 0 then addS s x else s
theorem upd_none {s : Bk} {no : Int} {f : Wk → Wk} (h : findI (noB no) s.ws = -1) : hasNo s no = false ∧ updS s no f = s := by
  unfold hasNo updS
  rw [h]
  exact ⟨rfl, rfl⟩
theorem upd_some {s : Bk} {no : Int} {f : Wk → Wk} {k : Nat} {x : Wk} (h : findI (noB no) s.ws = k) (hx : s.ws[k]? = some x) : hasNo s no = true ∧ atW s.ws (findI (noB no) s.ws) = x ∧ updS s no f = setS s k (f x) := by
  unfold hasNo updS
  rw [h, atW_of hx, if_pos (by omega), Int.toNat_natCast]
  exact ⟨decide_eq_true (by omega), rfl, rfl⟩
theorem rem_some {s : Bk} {no : Int} {k : Nat} (h : findI (noB no) s.ws = k) : remS s no = delS s k := by
  unfold remS
  rw [h, if_pos (by omega), Int.toNat_natCast]
theorem rem_none {s : Bk} {no : Int} (h : findI (noB no) s.ws = -1) : remS s no = s := by unfold remS; rw [h]; rfl
theorem post_of {T : TypeId} {base b : Nat} {v : Value} {s : Bk} {r : Value} {w : World} {f : FuncId} {args : Array Value} (hB : BookAt T base w b v s) (h : Calls Tryz.prog f args w fun e w' => e = .returned r ∧ Below w.heap.size w w') : Calls Tryz.prog f args w (BookPost T base w b v s r) :=
  h.mono fun _ _ ⟨he, hb⟩ => he ▸ post_same hB hb
theorem heard_u {base b : Nat} {v : Value} {s : Bk} (no : Int) (u : Int) (w : World) (hB : BookAt 56 base w b v s) :
    Calls Tryz.prog 21 #[.pointer (some ⟨b, 0, none⟩), .int .i64 no, .int .u64 u] w (BookPost 56 base w b v (updS s no (fun y => { y with untl := u })) (.bool (hasNo s no))) := by
  rcases findI_cases (noB no) s.ws with ⟨hf, -⟩ | ⟨k, x, hf, hx, -⟩
  · rw [(upd_none (f := (fun y => { y with untl := u })) hf).1, (upd_none (f := (fun y => { y with untl := u })) hf).2]
    exact heard_none no u w hB hf
  · rw [(upd_some (f := (fun y => { y with untl := u })) hf hx).1, (upd_some (f := (fun y => { y with untl := u })) hf hx).2.2]
    exact heard_some no u k x w hB hf hx
theorem pause_u {base b : Nat} {v : Value} {s : Bk} (no : Int) (on : Bool) (w : World) (hB : BookAt 56 base w b v s) :
    Calls Tryz.prog 23 #[.pointer (some ⟨b, 0, none⟩), .int .i64 no, .bool on] w (BookPost 56 base w b v (updS s no (fun y => { y with paused := on })) (.bool (hasNo s no))) := by
  rcases findI_cases (noB no) s.ws with ⟨hf, -⟩ | ⟨k, x, hf, hx, -⟩
  · rw [(upd_none (f := (fun y => { y with paused := on })) hf).1, (upd_none (f := (fun y => { y with paused := on })) hf).2]
    exact pause_none no on w hB hf
  · rw [(upd_some (f := (fun y => { y with paused := on })) hf hx).1, (upd_some (f := (fun y => { y with paused := on })) hf hx).2.2]
    exact pause_some no on k x w hB hf hx
theorem give_u {base b : Nat} {v : Value} {s : Bk} (no : Int) (op : Int) (w : World) (hB : BookAt 56 base w b v s) :
    Calls Tryz.prog 25 #[.pointer (some ⟨b, 0, none⟩), .int .i64 no, .int .i64 op] w (BookPost 56 base w b v (giveS s no op) (.bool (canGive s no op))) := by
  rcases findI_cases (noB no) s.ws with ⟨hf, -⟩ | ⟨k, x, hf, hx, -⟩
  · have h0 : canGive s no op = false := by unfold canGive; rw [(upd_none (f := id) hf).1]; rfl
    rw [show giveS s no op = s by unfold giveS; rw [h0]; rfl, h0]
    exact post_of hB (give_none no op w hB hf)
  · obtain ⟨e1, e2, e3⟩ := upd_some (f := (fun y => { y with op := op })) hf hx
    by_cases hz : x.op = 0
    · by_cases h1 : 1 ≤ op
      · have h0 : canGive s no op = true := by unfold canGive; rw [e1, e2, hz]; simp [h1]
        rw [show giveS s no op = setS s k { x with op := op } by unfold giveS; rw [if_pos h0]; exact e3, h0]
        exact give_yes no op k x w hB hf hx hz h1
      · have h0 : canGive s no op = false := by unfold canGive; rw [e1, e2, hz]; simp [h1]
        rw [show giveS s no op = s by unfold giveS; rw [h0]; rfl, h0]
        exact post_of hB (give_no no op k x w hB hf hx (.inr (by omega)))
    · have h0 : canGive s no op = false := by unfold canGive; rw [e1, e2]; simp [hz]
      rw [show giveS s no op = s by unfold giveS; rw [h0]; rfl, h0]
      exact post_of hB (give_no no op k x w hB hf hx (.inl hz))
theorem free_u {base b : Nat} {v : Value} {s : Bk} (no : Int) (w : World) (hB : BookAt 56 base w b v s) :
    Calls Tryz.prog 27 #[.pointer (some ⟨b, 0, none⟩), .int .i64 no] w (BookPost 56 base w b v (freeS s no) (.bool (canFree s no))) := by
  rcases findI_cases (noB no) s.ws with ⟨hf, -⟩ | ⟨k, x, hf, hx, -⟩
  · have h0 : canFree s no = false := by unfold canFree; rw [(upd_none (f := id) hf).1]; rfl
    rw [show freeS s no = s from (upd_none hf).2, h0]
    exact post_of hB (free_none no w hB hf)
  · obtain ⟨e1, e2, e3⟩ := upd_some (f := (fun y => { y with op := 0 })) hf hx
    have h0 : canFree s no = (x.op != 0) := by unfold canFree; rw [e1, e2]; rfl
    rw [show freeS s no = setS s k { x with op := 0 } from e3, h0]
    exact free_some no k x hf hx w hB
theorem remove_u {base b : Nat} {v : Value} {s : Bk} (no : Int) (w : World) (hB : BookAt 56 base w b v s) :
    Calls Tryz.prog 17 #[.pointer (some ⟨b, 0, none⟩), .int .i64 no] w (BookPost 56 base w b v (remS s no) (.bool (hasNo s no))) := by
  rcases findI_cases (noB no) s.ws with ⟨hf, -⟩ | ⟨k, x, hf, hx, -⟩
  · rw [(upd_none (f := id) hf).1, rem_none hf]
    exact post_of hB (remove_none no w hB hf)
  · rw [(upd_some (f := id) hf hx).1, rem_some hf]
    exact remove_some no k x w hB hf hx
theorem rbheard_u {base b : Nat} {v : Value} {s : Bk} (no : Int) (u : Int) (w : World) (hB : BookAt 29 base w b v s) (hbase : base ≤ w.heap.size) :
    Calls Tryz.prog 22 #[.pointer (some ⟨b, 0, none⟩), .int .i64 no, .int .u64 u] w (BookPost 29 base w b v (updS s no (fun y => { y with untl := u })) (.bool (hasNo s no))) := by
  rcases findI_cases (noB no) s.ws with ⟨hf, -⟩ | ⟨k, x, hf, hx, -⟩
  · rw [(upd_none (f := (fun y => { y with untl := u })) hf).1, (upd_none (f := (fun y => { y with untl := u })) hf).2]
    exact rbheard_none no u w hB hf
  · rw [(upd_some (f := (fun y => { y with untl := u })) hf hx).1, (upd_some (f := (fun y => { y with untl := u })) hf hx).2.2]
    exact rbheard_some no u k x w hB hf hx hbase
theorem rbpause_u {base b : Nat} {v : Value} {s : Bk} (no : Int) (on : Bool) (w : World) (hB : BookAt 29 base w b v s) (hbase : base ≤ w.heap.size) :
    Calls Tryz.prog 24 #[.pointer (some ⟨b, 0, none⟩), .int .i64 no, .bool on] w (BookPost 29 base w b v (updS s no (fun y => { y with paused := on })) (.bool (hasNo s no))) := by
  rcases findI_cases (noB no) s.ws with ⟨hf, -⟩ | ⟨k, x, hf, hx, -⟩
  · rw [(upd_none (f := (fun y => { y with paused := on })) hf).1, (upd_none (f := (fun y => { y with paused := on })) hf).2]
    exact rbpause_none no on w hB hf
  · rw [(upd_some (f := (fun y => { y with paused := on })) hf hx).1, (upd_some (f := (fun y => { y with paused := on })) hf hx).2.2]
    exact rbpause_some no on k x w hB hf hx hbase
theorem rbgive_u {base b : Nat} {v : Value} {s : Bk} (no : Int) (op : Int) (w : World) (hB : BookAt 29 base w b v s) (hbase : base ≤ w.heap.size) :
    Calls Tryz.prog 26 #[.pointer (some ⟨b, 0, none⟩), .int .i64 no, .int .i64 op] w (BookPost 29 base w b v (giveS s no op) (.bool (canGive s no op))) := by
  rcases findI_cases (noB no) s.ws with ⟨hf, -⟩ | ⟨k, x, hf, hx, -⟩
  · have h0 : canGive s no op = false := by unfold canGive; rw [(upd_none (f := id) hf).1]; rfl
    rw [show giveS s no op = s by unfold giveS; rw [h0]; rfl, h0]
    exact rbgive_none no op w hB hf
  · obtain ⟨e1, e2, e3⟩ := upd_some (f := (fun y => { y with op := op })) hf hx
    by_cases hz : x.op = 0
    · by_cases h1 : 1 ≤ op
      · have h0 : canGive s no op = true := by unfold canGive; rw [e1, e2, hz]; simp [h1]
        rw [show giveS s no op = setS s k { x with op := op } by unfold giveS; rw [if_pos h0]; exact e3, h0]
        exact rbgive_some no op k x w hB hf hx hz h1 hbase
      · have h0 : canGive s no op = false := by unfold canGive; rw [e1, e2, hz]; simp [h1]
        rw [show giveS s no op = s by unfold giveS; rw [h0]; rfl, h0]
        exact rbgive_no no op k x w hB hf hx (.inr (by omega))
    · have h0 : canGive s no op = false := by unfold canGive; rw [e1, e2]; simp [hz]
      rw [show giveS s no op = s by unfold giveS; rw [h0]; rfl, h0]
      exact rbgive_no no op k x w hB hf hx (.inl hz)
theorem rbfree_u {base b : Nat} {v : Value} {s : Bk} (no : Int) (w : World) (hB : BookAt 29 base w b v s) (hbase : base ≤ w.heap.size) :
    Calls Tryz.prog 28 #[.pointer (some ⟨b, 0, none⟩), .int .i64 no] w (BookPost 29 base w b v (freeS s no) (.bool (canFree s no))) := by
  rcases findI_cases (noB no) s.ws with ⟨hf, -⟩ | ⟨k, x, hf, hx, -⟩
  · have h0 : canFree s no = false := by unfold canFree; rw [(upd_none (f := id) hf).1]; rfl
    rw [show freeS s no = s from (upd_none hf).2, h0]
    exact rbfree_none no w hB hf
  · obtain ⟨e1, e2, e3⟩ := upd_some (f := (fun y => { y with op := 0 })) hf hx
    by_cases hz : x.op = 0
    · have h0 : canFree s no = false := by unfold canFree; rw [e1, e2, hz]; rfl
      rw [show freeS s no = s from e3.trans (by rw [show ({ x with op := 0 } : Wk) = x by rw [← hz]]; exact setS_self hx), h0]
      exact rbfree_no no k x w hB hf hx hz
    · have h0 : canFree s no = true := by unfold canFree; rw [e1, e2]; simp [hz]
      rw [show freeS s no = setS s k { x with op := 0 } from e3, h0]
      exact rbfree_some no k x w hB hf hx hz hbase
theorem rbremove_u {base b : Nat} {v : Value} {s : Bk} (no : Int) (w : World) (hB : BookAt 29 base w b v s) (hbase : base ≤ w.heap.size) :
    Calls Tryz.prog 29 #[.pointer (some ⟨b, 0, none⟩), .int .i64 no] w (BookPost 29 base w b v (remS s no) (.bool (hasNo s no))) := by
  rcases findI_cases (noB no) s.ws with ⟨hf, -⟩ | ⟨k, x, hf, hx, -⟩
  · rw [(upd_none (f := id) hf).1, rem_none hf]
    exact rbremove_none no w hB hf
  · rw [(upd_some (f := id) hf hx).1, rem_some hf]
    exact rbremove_some no k x w hB hf hx hbase
theorem add_u {base b : Nat} {v : Value} {s : Bk} (x : Wk) (w : World) (hr : Ready w) (hB : BookAt 56 base w b v s) (hs : SmallW x) (hl0 : 0 ≤ s.last) (hl1 : s.last ≤ 1000000) (hw : s.ws.length < 1000) (hbase : base ≤ w.heap.size) :
    Calls Tryz.prog 16 #[.pointer (some ⟨b, 0, none⟩), .agg #[.int .i64 x.no, .int .i64 x.cls, .int .i64 x.op, .string x.name, .string x.plat, .bool x.paused, .int .u64 x.untl]] w (BookPost 56 base w b v (addU s x) (.tuple #[.int .i64 (addN s x), .int .i64 (mayE s x)])) := by
  by_cases h : mayE s x = 0
  · rw [show addU s x = addS s x by unfold addU; rw [if_pos h], show addN s x = s.last + 1 by unfold addN; rw [if_pos h], h]
    exact add_ok x w hr hB hs h hl0 hl1 hw hbase
  · rw [show addU s x = s by unfold addU; rw [if_neg h], show addN s x = 0 by unfold addN; rw [if_neg h]]
    exact post_of hB (add_bad x w hr hB hs h)
theorem rbadd_u {base b : Nat} {v : Value} {s : Bk} (x : Wk) (w : World) (hB : BookAt 29 base w b v s) (hs : SmallW x) (hl0 : 0 ≤ s.last) (hl1 : s.last ≤ 1000000) (hw : s.ws.length < 1000) :
    Calls Tryz.prog 20 #[.pointer (some ⟨b, 0, none⟩), .agg #[.int .i64 x.no, .int .i64 x.cls, .int .i64 x.op, .string x.name, .string x.plat, .bool x.paused, .int .u64 x.untl]] w (BookPost 29 base w b v (addU s x) (.tuple #[.int .i64 (addN s x), .int .i64 (mayE s x)])) := by
  by_cases h : chkE x = 0
  · rcases h2 : decide (0 ≤ findI (nmB x.name) s.ws) with _ | _
    · by_cases h3 : s.room ≤ s.ws.length
      · have hm : mayE s x = 9 := by unfold mayE; rw [if_neg (by simp [h]), if_neg (of_decide_eq_false h2), if_pos h3]
        rw [show addU s x = s by unfold addU; rw [if_neg (by rw [hm]; decide)], show addN s x = 0 by unfold addN; rw [if_neg (by rw [hm]; decide)], hm]
        exact rbadd_many x w hB hs h h2 h3
      · have hm : mayE s x = 0 := by unfold mayE; rw [if_neg (by simp [h]), if_neg (of_decide_eq_false h2), if_neg h3]
        rw [show addU s x = addS s x by unfold addU; rw [if_pos hm], show addN s x = s.last + 1 by unfold addN; rw [if_pos hm], hm]
        exact rbadd_ok x w hB hs h h2 (by omega) hl0 hl1 hw
    · have hm : mayE s x = 8 := by unfold mayE; rw [if_neg (by simp [h]), if_pos (of_decide_eq_true h2)]
      rw [show addU s x = s by unfold addU; rw [if_neg (by rw [hm]; decide)], show addN s x = 0 by unfold addN; rw [if_neg (by rw [hm]; decide)], hm]
      exact rbadd_there x w hB hs h h2
  · have hm : mayE s x = chkE x := by unfold mayE; rw [if_pos h]
    rw [show addU s x = s by unfold addU; rw [if_neg (by rw [hm]; exact h)], show addN s x = 0 by unfold addN; rw [if_neg (by rw [hm]; exact h)], hm]
    exact rbadd_bad x w hB hs h

/-- Two books, apart; the blocks of L lie as in wL. -/
structure Two (w0 : World) (b b' : Nat) (L : List Nat) (wL : World) (s s' : Bk) (w : World) : Prop where
  ex : ∃ v v', BookAt 56 w0.heap.size w b v s ∧ BookAt 29 w0.heap.size w b' v' s' ∧ (∀ k ∈ b :: blk v, k ∉ b' :: blk v') ∧ (∀ k ∈ L, k ∉ b :: blk v ∧ k ∉ b' :: blk v')
  kept : ∀ k ∈ L, k < w.heap.size ∧ w.heap[k]? = wL.heap[k]?
  below : Below w0.heap.size w0 w
section
variable {w0 wL w w' : World} {b b' : Nat} {L : List Nat} {s s' s1 : Bk}
theorem book_lt {T : TypeId} {base b : Nat} {w : World} {v : Value} {s : Bk} (h : BookAt T base w b v s) : ∀ k ∈ b :: blk v, k < w.heap.size := by
  intro k hk
  rcases List.mem_cons.1 hk with rfl | h1
  · exact h.lt
  · exact own_lt h.own k h1
theorem Two.below' (h : Two w0 b b' L wL s s' w) (hb : Below w.heap.size w w') : Two w0 b b' L wL s s' w' := by
  obtain ⟨⟨v, v', h1, h2, h3, h4⟩, h5, h6⟩ := h
  exact ⟨⟨v, v', h1.below hb, h2.below hb, h3, h4⟩, fun k hk => ⟨Nat.lt_of_lt_of_le (h5 k hk).1 hb.size, (hb.block k (h5 k hk).1).trans (h5 k hk).2⟩, h6.trans (hb.mono h6.size)⟩
theorem Two.prog (h : Two w0 b b' L wL s s' w) {f : FuncId} {args : Array Value} {r : Value} (hc : ∀ v, BookAt 56 w0.heap.size w b v s → Calls Tryz.prog f args w (BookPost 56 w0.heap.size w b v s1 r)) :
    Calls Tryz.prog f args w fun e w' => e = .returned r ∧ Two w0 b b' L wL s1 s' w' := by
  obtain ⟨⟨v, v', h1, h2, h3, h4⟩, h5, h6⟩ := h
  refine (hc v h1).mono ?_
  rintro e w' ⟨rfl, v1, hB1, hF, hk⟩
  have hnew : ∀ k ∈ b :: blk v1, k ∈ b :: blk v ∨ w.heap.size ≤ k := fun k hm => by
    rcases List.mem_cons.1 hm with rfl | hm
    · exact .inl (by simp)
    · exact (hk k hm).imp (fun h => List.mem_cons_of_mem _ h) id
  refine ⟨rfl, ⟨v1, v', hB1, h2.frame hF (fun hm => h3 b' hm (by simp)) (fun k hk2 hm => h3 k hm (List.mem_cons_of_mem _ hk2)), fun k hm hm2 => ?_, fun k hL => ⟨fun hm => ?_, (h4 k hL).2⟩⟩, fun k hL => ⟨Nat.lt_of_lt_of_le (h5 k hL).1 hF.size, (hF.block k (h5 k hL).1 (h4 k hL).1).trans (h5 k hL).2⟩, h6.trans (hF.below h6.size (book_ge h1))⟩
  · rcases hnew k hm with h | h
    · exact h3 k h hm2
    · have := book_lt h2 k hm2; omega
  · rcases hnew k hm with h | h
    · exact (h4 k hL).1 h
    · have := (h5 k hL).1; omega
theorem Two.ref (h : Two w0 b b' L wL s s' w) {f : FuncId} {args : Array Value} {r : Value} (hc : ∀ v, BookAt 29 w0.heap.size w b' v s' → Calls Tryz.prog f args w (BookPost 29 w0.heap.size w b' v s1 r)) :
    Calls Tryz.prog f args w fun e w' => e = .returned r ∧ Two w0 b b' L wL s s1 w' := by
  obtain ⟨⟨v, v', h1, h2, h3, h4⟩, h5, h6⟩ := h
  refine (hc v' h2).mono ?_
  rintro e w' ⟨rfl, v1, hB1, hF, hk⟩
  have hnew : ∀ k ∈ b' :: blk v1, k ∈ b' :: blk v' ∨ w.heap.size ≤ k := fun k hm => by
    rcases List.mem_cons.1 hm with rfl | hm
    · exact .inl (by simp)
    · exact (hk k hm).imp (fun h => List.mem_cons_of_mem _ h) id
  refine ⟨rfl, ⟨v, v1, h1.frame hF (fun hm => h3 b (by simp) hm) (fun k hk2 hm => h3 k (List.mem_cons_of_mem _ hk2) hm), hB1, fun k hm hm2 => ?_, fun k hL => ⟨(h4 k hL).1, fun hm => ?_⟩⟩, fun k hL => ⟨Nat.lt_of_lt_of_le (h5 k hL).1 hF.size, (hF.block k (h5 k hL).1 (h4 k hL).2).trans (h5 k hL).2⟩, h6.trans (hF.below h6.size (book_ge h2))⟩
  · rcases hnew k hm2 with h | h
    · exact h3 k hm h
    · have := book_lt h1 k hm; omega
  · rcases hnew k hm with h | h
    · exact (h4 k hL).2 h
    · have := (h5 k hL).1; omega
/-- A block that was made since is kept, too. -/
theorem Two.protect (h : Two w0 b b' [] wL s s' w) {m : Nat} (hb : Below w.heap.size w w') (hm : w.heap.size ≤ m) (hm2 : m < w'.heap.size) : Two w0 b b' [m] w' s s' w' := by
  obtain ⟨⟨v, v', h1, h2, h3, h4⟩, h5, h6⟩ := h
  refine ⟨⟨v, v', h1.below hb, h2.below hb, h3, fun k hk => ?_⟩, fun k hk => ?_, h6.trans (hb.mono h6.size)⟩
  · rw [List.mem_singleton] at hk
    subst hk
    exact ⟨fun hm3 => by have := book_lt h1 k hm3; omega, fun hm3 => by have := book_lt h2 k hm3; omega⟩
  · rw [List.mem_singleton] at hk
    subst hk
    exact ⟨hm2, rfl⟩
theorem Two.bare (h : Two w0 b b' L wL s s' w) (wX : World) : Two w0 b b' [] wX s s' w := by
  obtain ⟨⟨v, v', h1, h2, h3, h4⟩, h5, h6⟩ := h
  exact ⟨⟨v, v', h1, h2, h3, (fun k hk => by cases hk)⟩, (fun k hk => by cases hk), h6⟩
theorem Two.cell {m i : Nat} {cs : Array Value} {t : TypeId} {fr : Nat × Nat} {u : Value} (h : Two w0 b b' L wL s s' w) (hm : m ∈ L) (hc : wL.heap[m]? = some (.cells cs t fr)) (hi : cs[i]? = some u) : w.cell? ⟨m, i, none⟩ = some u :=
  fr_cell_of_heap ((h.kept m hm).2.trans hc) hi
end
end Go.Proofs.YtmijmfgclmaodaaGreatDoor
