/-
  ServiceRecords: the evaluator over its program, and the example.
  A service that is none: what its methods tell; a closed run whose value is known.
  service.Format and service.Open where there is no disk.
  ServiceRecords: the law's walk.
-/
import Derived.Test.YtaaomhjgolmakaaGreatDoorSr07
import Derived.KernelRfl
import Derived.Test.YtaaomhjgolmakaaGreatDoorSr09
namespace Go.Proofs.YtaaomhjgolmakaaGreatDoor.Ev
open Go Go.RowKit Go.Proofs
theorem mixed : Tryz.prog.follows .mixedOrders = true := by kernel_rfl
def badL : List Nat := [195]
theorem draws : drawsAll Tryz.prog badL = true := by kernel_rfl
def etV : Value := .iface 482 (.agg #[.pointer (some ⟨4, 84, none⟩)])
theorem numC : NumC Tryz.prog 34 0 etV 184 188 := fun d z w h => Num.number_step d z w h
noncomputable def hk (cl : Cl) : Cl := hookR 110 (hookC 423 (hookK 34 0 etV 184 188 cl))
theorem hk_ok (cl : Cl) (h : ClOk Tryz.prog cl) : ClOk Tryz.prog (hk cl) := hookR_ok repC _ (hookC_ok crcC _ (hookK_ok numC _ h))
theorem clOk (n : Nat) : ClOk Tryz.prog (xCl Tryz.prog badL hk 20000 n) := xCl_ok (draws_of draws) hk_ok mixed n
theorem live_run : isTrueK 0 etV 300 (xCl Tryz.prog badL hk 20000 120 false 5 [] (startK 0 (cellObj etV 300) 1)) = true := by kernel_rfl
theorem live_any (w : World) (hw : w.heap[(0 : Nat)]? = some (cellObj etV 300)) : Calls Tryz.prog 5 #[] w (fun r w' => r = .returned (.bool true) ∧ Below w.heap.size w w') :=
  run_trueK (clOk 120) live_run (ρ := fun _ => ⟨0, 0, 0⟩) rfl (by decide) hw ⟨rfl, fun i x y hx hy => by simp at hx⟩
end Go.Proofs.YtaaomhjgolmakaaGreatDoor.Ev
namespace Go.Proofs.YtaaomhjgolmakaaGreatDoor.Ev
open Go Go.RowKit Go.Proofs
noncomputable def valOf (c : CR) : Value := CR.rec (motive := fun _ => Value) (fun _ => undef) (fun v _ => v) c
noncomputable def isOk (c : CR) : Bool := CR.rec (motive := fun _ => Bool) (fun _ => false) (fun _ _ => true) c
theorem run_val {P : Program} {cl : Cl} (hcl : ClOk P cl) {g : FuncId} {vs : List Value} {v0 : Value} (hok : isOk (cl false g vs start) = true) (hv0 : valOf (cl false g vs start) = v0) (hfl : flat v0 = true) (hv : vs.all flat = true) (w : World) :
    Calls P g vs.toArray w (fun e w' => e = .returned v0 ∧ Below w.heap.size w w') := by
  have ha : AR (fun _ => ⟨0, 0, 0⟩) 0 vs.toArray vs.toArray := ⟨rfl, fun i x y hx hy => by
    rw [hx] at hy
    obtain rfl := Option.some.inj hy
    exact flat_vr (List.all_eq_true.1 hv x (by simpa using Array.mem_of_getElem? hx))⟩
  rcases hc : cl false g vs start with n | ⟨v, s'⟩
  · rw [hc] at hok
    cases hok
  · rw [hc] at hv0
    obtain rfl : v = v0 := hv0
    refine Calls.mono (hcl.calls g vs start v s' hc _ w _ (start_sr _ w) ha) fun e w' he => ?_
    cases e with
    | returned u =>
      obtain ⟨ρ', st, hu⟩ := he
      obtain rfl := flat_eq hfl hu
      exact ⟨rfl, st.fr.os, st.fr.tape, st.fr.output, st.fr.size, fun k hk => st.fr.block k hk (fun n o hn => by cases hn)⟩
    | panicked ch => exact he.elim
    | outgrown => exact he.elim
noncomputable def runV (g : Nat) (vs : List Value) : CR := xCl Tryz.prog badL hk 20000 120 false g vs start
theorem of_runV {g : FuncId} {vs : List Value} {v0 : Value} (hok : isOk (runV g vs) = true) (hv0 : valOf (runV g vs) = v0) (hfl : flat v0 = true) (hv : vs.all flat = true) (w : World) :
    Calls Tryz.prog g vs.toArray w (fun e w' => e = .returned v0 ∧ Below w.heap.size w w') := run_val (clOk 120) hok hv0 hfl hv w
theorem step_nil (now : Int) (t : ByteArray) (w : World) : Calls Tryz.prog 9 #[.pointer none, .int .u64 now, .string t] w fun e w' => e = .returned (.tuple #[.slice none 0 0, .int .i64 19]) ∧ Below w.heap.size w w' :=
  of_runV (vs := [.pointer none, .int .u64 now, .string t]) (by kernel_rfl) (by kernel_rfl) (by kernel_rfl) (by kernel_rfl) w
theorem tick_nil (now : Int) (w : World) : Calls Tryz.prog 13 #[.pointer none, .int .u64 now] w fun e w' => e = .returned (.slice none 0 0) ∧ Below w.heap.size w w' :=
  of_runV (vs := [.pointer none, .int .u64 now]) (by kernel_rfl) (by kernel_rfl) (by kernel_rfl) (by kernel_rfl) w
theorem left_nil (w : World) : Calls Tryz.prog 14 #[.pointer none] w fun e w' => e = .returned (.int .i64 0) ∧ Below w.heap.size w w' :=
  of_runV (vs := [.pointer none]) (by kernel_rfl) (by kernel_rfl) (by kernel_rfl) (by kernel_rfl) w
abbrev stZ : Value := .agg #[.int .u64 0, .bool false, .int .i64 0, .int .i64 0, .int .i64 0, .int .i64 0, .int .i64 0, .slice none 0 0, .slice none 0 0, .slice none 0 0, .slice none 0 0, .slice none 0 0, .slice none 0 0, .slice none 0 0, .slice none 0 0]
theorem state_nil (w : World) : Calls Tryz.prog 16 #[.pointer none] w fun e w' => e = .returned stZ ∧ Below w.heap.size w w' :=
  of_runV (vs := [.pointer none]) (by kernel_rfl) (by kernel_rfl) (by kernel_rfl) (by kernel_rfl) w
theorem same_nil (w : World) : Calls Tryz.prog 15 #[stZ, stZ] w fun e w' => e = .returned (.bool true) ∧ Below w.heap.size w w' :=
  of_runV (vs := [stZ, stZ]) (by kernel_rfl) (by kernel_rfl) (by kernel_rfl) (by kernel_rfl) w
theorem jopen_nil (w : World) : Calls Tryz.prog 30 #[.pointer none, .int .i64 3] w fun e w' => e = .returned (.tuple #[.pointer none, .string ⟨#[]⟩, .slice none 0 0, .int .i64 19]) ∧ Below w.heap.size w w' :=
  of_runV (vs := [.pointer none, .int .i64 3]) (by kernel_rfl) (by kernel_rfl) (by kernel_rfl) (by kernel_rfl) w
theorem jformat_nil (t : ByteArray) (w : World) : Calls Tryz.prog 49 #[.pointer none, .int .i64 3, .string t] w fun e w' => e = .returned (.int .i64 19) ∧ Below w.heap.size w w' :=
  of_runV (vs := [.pointer none, .int .i64 3, .string t]) (by kernel_rfl) (by kernel_rfl) (by kernel_rfl) (by kernel_rfl) w
end Go.Proofs.YtaaomhjgolmakaaGreatDoor.Ev
namespace Go.Proofs.YtaaomhjgolmakaaGreatDoor
open Go.RowKit
noncomputable def newS : Value := Ev.valOf (Ev.runV 48 [])
theorem new_any (w : World) : Calls Tryz.prog 48 #[] w fun e w' => e = .returned newS ∧ Below w.heap.size w w' :=
  Ev.of_runV (vs := []) (by kernel_rfl) rfl (by kernel_rfl) (by kernel_rfl) w
noncomputable def strOf : Value → ByteArray
  | .tuple a => match a.toList with
    | Value.string s :: _ => s
    | _ => ⟨#[]⟩
  | _ => ⟨#[]⟩
noncomputable def newT : ByteArray := strOf (Ev.valOf (Ev.runV 47 [newS]))
theorem encode_any (w : World) : Calls Tryz.prog 47 #[newS] w fun e w' => e = .returned (.tuple #[.string newT, .int .i64 0]) ∧ Below w.heap.size w w' :=
  Ev.of_runV (vs := [newS]) (by kernel_rfl) (by kernel_rfl) (by kernel_rfl) (by kernel_rfl) w
theorem bseq {a b c : World} (h : Below a.heap.size a b) (k : Below b.heap.size b c) : Below a.heap.size a c := h.trans (k.mono h.size)
def wantE (c : Cfg) : Int := if checkE c = 0 then 19 else 1
set_option maxHeartbeats 1000000 in
set_option maxRecDepth 100000 in
theorem format_nil (cs : Array Value) (tv lv : Value) (c : Cfg) (w : World) (hc : CfgCells cs tv lv c) (hC : CfgAt w tv lv c) :
    Calls Tryz.prog 17 #[.pointer none, .int .i64 3, .agg cs] w fun e w' => e = .returned (.int .i64 (wantE c)) ∧ Below w.heap.size w w' := by
  have HC := Lib.hid hc; clear hc
  have HCA := Lib.hid hC; clear hC
  by_cases h0 : checkE c = 0
  · rw [show wantE c = 19 from if_pos h0]
    have H0 := Lib.hid h0
    clear h0
    go_enter Tryz.func17, Tryz.ntmps17
    go_wp2_with (refine wpList_load_agg 26 (heap_alloc_new w _) Tryz.underlying26 rfl (cfg_sz HC.out) rfl _ rfl rfl ?_)
    refine (check_any _ _ _ c _ HC.out (HCA.out.below box_below)).mono ?_
    rintro e w1 ⟨rfl, hb⟩
    rw [H0.out]
    go_wp2_with fail
    refine (new_any _).mono ?_
    rintro e w2 ⟨rfl, hb2⟩
    go_wp2_with fail
    refine (encode_any _).mono ?_
    rintro e w3 ⟨rfl, hb3⟩
    go_wp2_with fail
    refine (Ev.jformat_nil _ _).mono ?_
    rintro e w4 ⟨rfl, hb4⟩
    go_wp2
    go_ret
    exact ⟨rfl, box_below2 (bseq (bseq (bseq hb hb2) hb3) hb4)⟩
  · rw [show wantE c = 1 from if_neg h0]
    have H0 := Lib.hid (show (checkE c != 0) = true by rw [bne_iff_ne]; exact h0)
    clear h0
    go_enter Tryz.func17, Tryz.ntmps17
    go_wp2_with (refine wpList_load_agg 26 (heap_alloc_new w _) Tryz.underlying26 rfl (cfg_sz HC.out) rfl _ rfl rfl ?_)
    refine (check_any _ _ _ c _ HC.out (HCA.out.below box_below)).mono ?_
    rintro e w1 ⟨rfl, hb⟩
    have h0 := H0.out
    go_wp2
    go_ret
    exact ⟨rfl, box_below2 hb⟩
set_option maxHeartbeats 1000000 in
set_option maxRecDepth 100000 in
theorem open_nil (cs : Array Value) (tv lv : Value) (c : Cfg) (now : Int) (w : World) (hc : CfgCells cs tv lv c) (hC : CfgAt w tv lv c) :
    Calls Tryz.prog 10 #[.pointer none, .int .i64 3, .agg cs, .int .u64 now] w fun e w' => e = .returned (.tuple #[.pointer none, .slice none 0 0, .int .i64 (wantE c)]) ∧ Below w.heap.size w w' := by
  have HC := Lib.hid hc; clear hc
  have HCA := Lib.hid hC; clear hC
  by_cases h0 : checkE c = 0
  · rw [show wantE c = 19 from if_pos h0]
    have H0 := Lib.hid h0
    clear h0
    go_enter Tryz.func10, Tryz.ntmps10
    go_wp2_with (refine wpList_load_agg 26 (heap_alloc_new w _) Tryz.underlying26 rfl (cfg_sz HC.out) rfl _ rfl rfl ?_)
    refine (check_any _ _ _ c _ HC.out (HCA.out.below box_below)).mono ?_
    rintro e w1 ⟨rfl, hb⟩
    rw [H0.out]
    go_wp2_with fail
    refine (Ev.jopen_nil _).mono ?_
    rintro e w2 ⟨rfl, hb2⟩
    go_wp2
    go_ret3
    exact ⟨rfl, box_below2 (bseq hb hb2)⟩
  · rw [show wantE c = 1 from if_neg h0]
    have H0 := Lib.hid (show (checkE c != 0) = true by rw [bne_iff_ne]; exact h0)
    clear h0
    go_enter Tryz.func10, Tryz.ntmps10
    go_wp2_with (refine wpList_load_agg 26 (heap_alloc_new w _) Tryz.underlying26 rfl (cfg_sz HC.out) rfl _ rfl rfl ?_)
    refine (check_any _ _ _ c _ HC.out (HCA.out.below box_below)).mono ?_
    rintro e w1 ⟨rfl, hb⟩
    have h0 := H0.out
    go_wp2
    go_ret3
    exact ⟨rfl, box_below2 hb⟩
end Go.Proofs.YtaaomhjgolmakaaGreatDoor
namespace Go.Proofs.YtaaomhjgolmakaaGreatDoor
open Go.RowKit
def wideS (c : Cfg) : Bool := decide (20 < c.ts.length) || decide (20 < c.ls.length)
set_option maxHeartbeats 1000000 in
theorem wideS_any (cs : Array Value) (tv lv : Value) (c : Cfg) (w : World) (hc : CfgCells cs tv lv c) (hC : CfgAt w tv lv c) :
    Calls Tryz.prog 4 #[.agg cs] w fun e w' => e = .returned (.bool (wideS c)) ∧ Below w.heap.size w w' := by
  have HC := Lib.hid hc; clear hc
  obtain ⟨ta, tcap, htv, htlen, _⟩ := id hC.1
  obtain ⟨la, lcap, hlv, hlen, _⟩ := id hC.2
  subst hlv htv
  clear hC
  have c0 := cell_alloc_at (w := w) (t := 26) HC.out.f0
  have c1 := cell_alloc_at (w := w) (t := 26) HC.out.f1
  go_enter Tryz.func4, Tryz.ntmps4
  go_wp2
  all_goals
    go_ret
    refine ⟨ret_bool ?_, box_below⟩
    unfold wideS
    first
      | (simp; omega)
      | (congr 1 <;> (apply decide_eq_decide.2; omega))
theorem et_below {w w' : World} {o : Obj} (h : w.heap[(0 : Nat)]? = some o) (hb : Below w.heap.size w w') : w'.heap[(0 : Nat)]? = some o := by
  rw [hb.block _ (Array.getElem?_eq_some_iff.1 h).1]
  exact h
def EtAt (w : World) : Prop := w.heap[(0 : Nat)]? = some (Ev.cellObj Ev.etV 300)
theorem EtAt.below {w w' : World} (h : EtAt w) (hb : Below w.heap.size w w') : EtAt w' := et_below h hb
set_option maxHeartbeats 1000000 in
set_option maxRecDepth 100000 in
theorem records_wide (cs : Array Value) (tv lv : Value) (c : Cfg) (now : Int) (t : ByteArray) (w : World) (hc : CfgCells cs tv lv c) (hC : CfgAt w tv lv c) (he : EtAt w) (h : wideS c = true) :
    Calls Tryz.prog 3 #[.int .u64 now, .string t, .agg cs] w fun e w' => e = .returned (.bool true) ∧ Below w.heap.size w w' := by
  have HC := Lib.hid hc; clear hc
  have HCA := Lib.hid hC; clear hC
  have HE := Lib.hid he; clear he
  go_enter Tryz.func3, Tryz.ntmps3
  go_wp2_with (refine wpList_load_agg 26 (heap_alloc_new w _) Tryz.underlying26 rfl (cfg_sz HC.out) rfl _ rfl rfl ?_)
  refine (wideS_any _ _ _ c _ HC.out (HCA.out.below box_below)).mono ?_
  rintro e w1 ⟨rfl, hb⟩
  rw [h]
  go_wp2_with fail
  refine (Ev.live_any _ ((HE.out.below box_below).below hb)).mono ?_
  rintro e w2 ⟨rfl, hb2⟩
  go_wp2
  go_ret
  exact ⟨rfl, box_below2 (bseq hb hb2)⟩
set_option maxHeartbeats 1000000 in
set_option maxRecDepth 100000 in
theorem records_long (cs : Array Value) (tv lv : Value) (c : Cfg) (now : Int) (t : ByteArray) (w : World) (hc : CfgCells cs tv lv c) (hC : CfgAt w tv lv c) (he : EtAt w) (h : wideS c = false) (ht : 2000 < t.size) :
    Calls Tryz.prog 3 #[.int .u64 now, .string t, .agg cs] w fun e w' => e = .returned (.bool true) ∧ Below w.heap.size w w' := by
  have HC := Lib.hid hc; clear hc
  have HCA := Lib.hid hC; clear hC
  have HE := Lib.hid he; clear he
  go_enter Tryz.func3, Tryz.ntmps3
  go_wp2_with (refine wpList_load_agg 26 (heap_alloc_new w _) Tryz.underlying26 rfl (cfg_sz HC.out) rfl _ rfl rfl ?_)
  refine (wideS_any _ _ _ c _ HC.out (HCA.out.below box_below)).mono ?_
  rintro e w1 ⟨rfl, hb⟩
  rw [h]
  go_wp2_with fail
  refine (Ev.live_any _ ((HE.out.below box_below).below hb)).mono ?_
  rintro e w2 ⟨rfl, hb2⟩
  go_wp2
  go_ret
  exact ⟨rfl, box_below2 (bseq hb hb2)⟩
theorem num_any (n : Int) (w : World) : Calls Tryz.prog 12 #[.int .i64 n] w fun e w' => e = .returned (.int .i64 n) ∧ Below w.heap.size w w' := by
  go_enter Tryz.func12, Tryz.ntmps12
  go_wp2
  go_ret
  exact ⟨rfl, Below.refl _ _⟩
theorem parts_any (w : World) : Calls Tryz.prog 18 #[.int .i64 9, .int .i64 3] w fun e w' => e = .returned (.bool true) ∧ Below w.heap.size w w' :=
  Ev.of_runV (vs := [.int .i64 9, .int .i64 3]) (by kernel_rfl) (by kernel_rfl) (by kernel_rfl) (by kernel_rfl) w
theorem box_there {w w' : World} {o : Obj} (h : Below (w.alloc o).heap.size (w.alloc o) w') : w'.heap[w.heap.size]? = some o := by
  rw [h.block _ (by simp)]
  exact heap_alloc_new w o
set_option maxHeartbeats 4000000 in
set_option maxRecDepth 100000 in
theorem records_short (cs : Array Value) (tv lv : Value) (c : Cfg) (now : Nat) (t : ByteArray) (w : World) (hc : CfgCells cs tv lv c) (hC : CfgAt w tv lv c) (he : EtAt w) (h : wideS c = false) (hnow : now < 18446744073709551616) (h8 : t.size < 8) :
    Calls Tryz.prog 3 #[.int .u64 now, .string t, .agg cs] w fun e w' => e = .returned (.bool true) ∧ Below w.heap.size w w' := by
  have hs : splitV t = (0, ⟨#[]⟩, false) := if_pos h8
  have hs2 := split_rec now t hnow
  have HC := Lib.hid hc; clear hc
  have HCA := Lib.hid hC; clear hC
  have HE := Lib.hid he; clear he
  have HN := Lib.hid hnow; clear hnow
  go_enter Tryz.func3, Tryz.ntmps3
  go_wp2_with (refine wpList_load_agg 26 (heap_alloc_new w _) Tryz.underlying26 rfl (cfg_sz HC.out) rfl _ rfl rfl ?_)
  refine (wideS_any _ _ _ c _ HC.out (HCA.out.below box_below)).mono ?_
  rintro e w1 ⟨rfl, b1⟩
  rw [h]
  go_wp2_with fail
  refine (split_any t _).mono ?_
  rintro e w2 ⟨rfl, b2⟩
  rw [hs]
  go_wp2_with fail
  refine (record_any now t _ HN.out (by omega)).mono ?_
  rintro e w3 ⟨rfl, b3⟩
  go_wp2_with fail
  refine (split_any _ _).mono ?_
  rintro e w4 ⟨rfl, b4⟩
  rw [hs2]
  go_wp2_with fail
  refine (record_any now t _ HN.out (by omega)).mono ?_
  rintro e w5 ⟨rfl, b5⟩
  go_wp2_with fail
  refine (rrecord_any now t _ HN.out (by omega)).mono ?_
  rintro e w6 ⟨rfl, b6⟩
  go_wp2_with fail
  refine (Ev.step_nil _ _ _).mono ?_
  rintro e w7 ⟨rfl, b7⟩
  have B7 := bseq (bseq (bseq (bseq (bseq (bseq b1 b2) b3) b4) b5) b6) b7
  clear b1 b2 b3 b4 b5 b6 b7 hs hs2
  have x7 := box_there B7
  go_wp2_with (refine wpList_load_agg 26 x7 Tryz.underlying26 rfl (cfg_sz HC.out) rfl _ rfl rfl ?_)
  refine (open_nil _ _ _ c _ _ HC.out (HCA.out.below (box_below2 B7))).mono ?_
  rintro e w8 ⟨rfl, b8⟩
  have B8 := bseq B7 b8
  have x8 := box_there B8
  clear B7 x7 b8
  go_wp2_with (refine wpList_load_agg 26 x8 Tryz.underlying26 rfl (cfg_sz HC.out) rfl _ rfl rfl ?_)
  refine (rright_any _ _ _ c _ HC.out (HCA.out.below (box_below2 B8))).mono ?_
  rintro e w9 ⟨rfl, b9⟩
  have B9 := bseq B8 b9
  have x9 := box_there B9
  clear B8 x8 b9
  by_cases h0 : checkE c = 0
  · have hq : (checkE c == 0) = true := by rw [h0]; rfl
    have hwant : wantE c = 19 := if_pos h0
    rw [hq, hwant]
    go_wp2_with fail
    refine (num_any _ _).mono ?_
    rintro e w10 ⟨rfl, b10⟩
    go_wp2_with fail
    refine (Ev.tick_nil _ _).mono ?_
    rintro e w11 ⟨rfl, b11⟩
    go_wp2_with fail
    refine (Ev.left_nil _).mono ?_
    rintro e w12 ⟨rfl, b12⟩
    go_wp2_with fail
    refine (Ev.state_nil _).mono ?_
    rintro e w13 ⟨rfl, b13⟩
    go_wp2_with fail
    refine (Ev.same_nil _).mono ?_
    rintro e w14 ⟨rfl, b14⟩
    go_wp2_with fail
    refine (num_any _ _).mono ?_
    rintro e w15 ⟨rfl, b15⟩
    have B15 := bseq (bseq (bseq (bseq (bseq (bseq B9 b10) b11) b12) b13) b14) b15
    have x15 := box_there B15
    clear B9 x9 b10 b11 b12 b13 b14 b15
    go_wp2_with (refine wpList_load_agg 26 x15 Tryz.underlying26 rfl (cfg_sz HC.out) rfl _ rfl rfl ?_)
    refine (format_nil _ _ _ c _ HC.out (HCA.out.below (box_below2 B15))).mono ?_
    rintro e w16 ⟨rfl, b16⟩
    rw [hwant]
    go_wp2_with fail
    refine (num_any _ _).mono ?_
    rintro e w17 ⟨rfl, b17⟩
    go_wp2_with fail
    refine (parts_any _).mono ?_
    rintro e w18 ⟨rfl, b18⟩
    have B18 := bseq (bseq (bseq B15 b16) b17) b18
    clear B15 x15 b16 b17 b18
    go_wp2_with fail
    refine (Ev.live_any _ ((HE.out.below box_below).below B18)).mono ?_
    rintro e w19 ⟨rfl, b19⟩
    go_wp2
    go_ret
    exact ⟨rfl, box_below2 (bseq B18 b19)⟩
  · have hq : (checkE c == 0) = false := beq_eq_false_iff_ne.2 h0
    have hwant : wantE c = 1 := if_neg h0
    rw [hq, hwant]
    go_wp2_with fail
    refine (num_any _ _).mono ?_
    rintro e w10 ⟨rfl, b10⟩
    go_wp2_with fail
    refine (Ev.tick_nil _ _).mono ?_
    rintro e w11 ⟨rfl, b11⟩
    go_wp2_with fail
    refine (Ev.left_nil _).mono ?_
    rintro e w12 ⟨rfl, b12⟩
    go_wp2_with fail
    refine (Ev.state_nil _).mono ?_
    rintro e w13 ⟨rfl, b13⟩
    go_wp2_with fail
    refine (Ev.same_nil _).mono ?_
    rintro e w14 ⟨rfl, b14⟩
    go_wp2_with fail
    refine (num_any _ _).mono ?_
    rintro e w15 ⟨rfl, b15⟩
    have B15 := bseq (bseq (bseq (bseq (bseq (bseq B9 b10) b11) b12) b13) b14) b15
    have x15 := box_there B15
    clear B9 x9 b10 b11 b12 b13 b14 b15
    go_wp2_with (refine wpList_load_agg 26 x15 Tryz.underlying26 rfl (cfg_sz HC.out) rfl _ rfl rfl ?_)
    refine (format_nil _ _ _ c _ HC.out (HCA.out.below (box_below2 B15))).mono ?_
    rintro e w16 ⟨rfl, b16⟩
    rw [hwant]
    go_wp2_with fail
    refine (num_any _ _).mono ?_
    rintro e w17 ⟨rfl, b17⟩
    go_wp2_with fail
    refine (parts_any _).mono ?_
    rintro e w18 ⟨rfl, b18⟩
    have B18 := bseq (bseq (bseq B15 b16) b17) b18
    clear B15 x15 b16 b17 b18
    go_wp2_with fail
    refine (Ev.live_any _ ((HE.out.below box_below).below B18)).mono ?_
    rintro e w19 ⟨rfl, b19⟩
    go_wp2
    go_ret
    exact ⟨rfl, box_below2 (bseq B18 b19)⟩
set_option maxHeartbeats 4000000 in
set_option maxRecDepth 100000 in
theorem records_full (cs : Array Value) (tv lv : Value) (c : Cfg) (now : Nat) (t : ByteArray) (w : World) (hc : CfgCells cs tv lv c) (hC : CfgAt w tv lv c) (he : EtAt w) (h : wideS c = false) (hnow : now < 18446744073709551616) (h8 : 8 ≤ t.size) (h2 : t.size ≤ 2000) :
    Calls Tryz.prog 3 #[.int .u64 now, .string t, .agg cs] w fun e w' => e = .returned (.bool true) ∧ Below w.heap.size w w' := by
  obtain ⟨a, b, hs, ha, hb, hr⟩ : ∃ a b, splitV t = (a, b, true) ∧ a < 18446744073709551616 ∧ b.size ≤ 2000 ∧ recB a b = t := by
    have hr := rec_split t h8
    have hl := split_lt t
    have he : splitV t = (numL (t.data.toList.take 8), t.extract 8 t.size, true) := if_neg (by omega)
    rw [he] at hr hl
    refine ⟨_, _, he, hl, ?_, hr⟩
    rw [ByteArray.size_extract]
    omega
  have hs2 := split_rec now t hnow
  have HC := Lib.hid hc; clear hc
  have HCA := Lib.hid hC; clear hC
  have HE := Lib.hid he; clear he
  have HN := Lib.hid hnow; clear hnow
  have HA := Lib.hid ha; clear ha
  have HB := Lib.hid (show b.size ≤ 140737488351232 by omega); clear hb
  go_enter Tryz.func3, Tryz.ntmps3
  go_wp2_with (refine wpList_load_agg 26 (heap_alloc_new w _) Tryz.underlying26 rfl (cfg_sz HC.out) rfl _ rfl rfl ?_)
  refine (wideS_any _ _ _ c _ HC.out (HCA.out.below box_below)).mono ?_
  rintro e w1 ⟨rfl, b1⟩
  rw [h]
  go_wp2_with fail
  refine (split_any t _).mono ?_
  rintro e w2 ⟨rfl, b2⟩
  rw [hs]
  go_wp2_with fail
  refine (record_any now t _ HN.out (by omega)).mono ?_
  rintro e w3 ⟨rfl, b3⟩
  go_wp2_with fail
  refine (split_any _ _).mono ?_
  rintro e w4 ⟨rfl, b4⟩
  rw [hs2]
  go_wp2_with fail
  refine (record_any now t _ HN.out (by omega)).mono ?_
  rintro e w5 ⟨rfl, b5⟩
  go_wp2_with fail
  refine (rrecord_any now t _ HN.out (by omega)).mono ?_
  rintro e w5a ⟨rfl, b5a⟩
  go_wp2_with fail
  refine (rrecord_any a b _ HA.out HB.out).mono ?_
  rintro e w6 ⟨rfl, b6⟩
  rw [hr]
  go_wp2_with fail
  refine (Ev.step_nil _ _ _).mono ?_
  rintro e w7 ⟨rfl, b7⟩
  have B7 := bseq (bseq (bseq (bseq (bseq (bseq (bseq b1 b2) b3) b4) b5) b5a) b6) b7
  clear b1 b2 b3 b4 b5 b5a b6 b7 hs hs2
  have x7 := box_there B7
  go_wp2_with (refine wpList_load_agg 26 x7 Tryz.underlying26 rfl (cfg_sz HC.out) rfl _ rfl rfl ?_)
  refine (open_nil _ _ _ c _ _ HC.out (HCA.out.below (box_below2 B7))).mono ?_
  rintro e w8 ⟨rfl, b8⟩
  have B8 := bseq B7 b8
  have x8 := box_there B8
  clear B7 x7 b8
  go_wp2_with (refine wpList_load_agg 26 x8 Tryz.underlying26 rfl (cfg_sz HC.out) rfl _ rfl rfl ?_)
  refine (rright_any _ _ _ c _ HC.out (HCA.out.below (box_below2 B8))).mono ?_
  rintro e w9 ⟨rfl, b9⟩
  have B9 := bseq B8 b9
  have x9 := box_there B9
  clear B8 x8 b9
  by_cases h0 : checkE c = 0
  · have hq : (checkE c == 0) = true := by rw [h0]; rfl
    have hwant : wantE c = 19 := if_pos h0
    rw [hq, hwant]
    go_wp2_with fail
    refine (num_any _ _).mono ?_
    rintro e w10 ⟨rfl, b10⟩
    go_wp2_with fail
    refine (Ev.tick_nil _ _).mono ?_
    rintro e w11 ⟨rfl, b11⟩
    go_wp2_with fail
    refine (Ev.left_nil _).mono ?_
    rintro e w12 ⟨rfl, b12⟩
    go_wp2_with fail
    refine (Ev.state_nil _).mono ?_
    rintro e w13 ⟨rfl, b13⟩
    go_wp2_with fail
    refine (Ev.same_nil _).mono ?_
    rintro e w14 ⟨rfl, b14⟩
    go_wp2_with fail
    refine (num_any _ _).mono ?_
    rintro e w15 ⟨rfl, b15⟩
    have B15 := bseq (bseq (bseq (bseq (bseq (bseq B9 b10) b11) b12) b13) b14) b15
    have x15 := box_there B15
    clear B9 x9 b10 b11 b12 b13 b14 b15
    go_wp2_with (refine wpList_load_agg 26 x15 Tryz.underlying26 rfl (cfg_sz HC.out) rfl _ rfl rfl ?_)
    refine (format_nil _ _ _ c _ HC.out (HCA.out.below (box_below2 B15))).mono ?_
    rintro e w16 ⟨rfl, b16⟩
    rw [hwant]
    go_wp2_with fail
    refine (num_any _ _).mono ?_
    rintro e w17 ⟨rfl, b17⟩
    go_wp2_with fail
    refine (parts_any _).mono ?_
    rintro e w18 ⟨rfl, b18⟩
    have B18 := bseq (bseq (bseq B15 b16) b17) b18
    clear B15 x15 b16 b17 b18
    go_wp2_with fail
    refine (Ev.live_any _ ((HE.out.below box_below).below B18)).mono ?_
    rintro e w19 ⟨rfl, b19⟩
    go_wp2
    go_ret
    exact ⟨rfl, box_below2 (bseq B18 b19)⟩
  · have hq : (checkE c == 0) = false := beq_eq_false_iff_ne.2 h0
    have hwant : wantE c = 1 := if_neg h0
    rw [hq, hwant]
    go_wp2_with fail
    refine (num_any _ _).mono ?_
    rintro e w10 ⟨rfl, b10⟩
    go_wp2_with fail
    refine (Ev.tick_nil _ _).mono ?_
    rintro e w11 ⟨rfl, b11⟩
    go_wp2_with fail
    refine (Ev.left_nil _).mono ?_
    rintro e w12 ⟨rfl, b12⟩
    go_wp2_with fail
    refine (Ev.state_nil _).mono ?_
    rintro e w13 ⟨rfl, b13⟩
    go_wp2_with fail
    refine (Ev.same_nil _).mono ?_
    rintro e w14 ⟨rfl, b14⟩
    go_wp2_with fail
    refine (num_any _ _).mono ?_
    rintro e w15 ⟨rfl, b15⟩
    have B15 := bseq (bseq (bseq (bseq (bseq (bseq B9 b10) b11) b12) b13) b14) b15
    have x15 := box_there B15
    clear B9 x9 b10 b11 b12 b13 b14 b15
    go_wp2_with (refine wpList_load_agg 26 x15 Tryz.underlying26 rfl (cfg_sz HC.out) rfl _ rfl rfl ?_)
    refine (format_nil _ _ _ c _ HC.out (HCA.out.below (box_below2 B15))).mono ?_
    rintro e w16 ⟨rfl, b16⟩
    rw [hwant]
    go_wp2_with fail
    refine (num_any _ _).mono ?_
    rintro e w17 ⟨rfl, b17⟩
    go_wp2_with fail
    refine (parts_any _).mono ?_
    rintro e w18 ⟨rfl, b18⟩
    have B18 := bseq (bseq (bseq B15 b16) b17) b18
    clear B15 x15 b16 b17 b18
    go_wp2_with fail
    refine (Ev.live_any _ ((HE.out.below box_below).below B18)).mono ?_
    rintro e w19 ⟨rfl, b19⟩
    go_wp2
    go_ret
    exact ⟨rfl, box_below2 (bseq B18 b19)⟩
theorem records_any (cs : Array Value) (tv lv : Value) (c : Cfg) (now : Nat) (t : ByteArray) (w : World) (hc : CfgCells cs tv lv c) (hC : CfgAt w tv lv c) (he : EtAt w) (hnow : now < 18446744073709551616) :
    Calls Tryz.prog 3 #[.int .u64 now, .string t, .agg cs] w fun e w' => e = .returned (.bool true) ∧ Below w.heap.size w w' := by
  rcases Bool.eq_false_or_eq_true (wideS c) with h | h
  · exact records_wide cs tv lv c now t w hc hC he h
  · by_cases h2 : 2000 < t.size
    · exact records_long cs tv lv c now t w hc hC he h h2
    · by_cases h8 : t.size < 8
      · exact records_short cs tv lv c now t w hc hC he h hnow h8
      · exact records_full cs tv lv c now t w hc hC he h hnow (by omega) (by omega)
end Go.Proofs.YtaaomhjgolmakaaGreatDoor
