/-
  An evaluator for closed runs: the interpreter is right (5: every operation).
-/
import Derived.Test.YtjfcjpbolokfcaaGreatDoorEv27
namespace Go.Proofs.YtjfcjpbolokfcaaGreatDoor.Ev
open Go

section
variable {P : Program} {cl : Cl} {o : Oper} {f : T Value} {s s' : St} {v : Value} {k : K}
theorem xAlloc_v {t : TypeId} (ho : o.op = .alloc t) : W (VI P o f s k) (xAlloc P t s k) := onO_w fun _ hi => onO_w fun _ hz => onB_w fun hf => newS_w (v_end (alloc_ok ho hi hz hf))
theorem xBox_v {t : TypeId} {x : Operand} (ho : o.op = .box t x) : W (VI P o f s k) (xBox t x f s k) := onO_w fun _ hv => newS_w (v_end (box_ok ho (ev_eq hv)))
theorem xStore_v {t : TypeId} {x y : Operand} (ho : o.op = .store t x y) : W (VI P o f s k) (xStore P t x y f s k) :=
  onO_w fun p hp => onPtr_w fun n q hq => onCells_w fun tr m e sz fz hn => onO_w fun v hv => onO_w fun i hi => beq_w fun hsz => onB_w fun h1 => ble_w fun hz => ble_w fun hk => setS_w (by
    subst hq
    rw [allOne_eq] at h1
    exact s_end (store_ok ho hi (ev_eq hp) (ev_eq hv) hsz h1 hn hz hk))
theorem xBuildSlice_v {t : TypeId} {n : Nat} {ps : Array (Nat × Operand)} (ho : o.op = .buildSlice t n ps) : W (VI P o f s k) (xBuildSlice P t n ps f s k) := onO_w fun e he => onO_w fun ie hie => by
  refine bool_w (fun _ => ?_) (fun hn => ?_)
  · refine onO_w fun z hz => ble_w fun h1 => onB_w fun hfl => ne_w fun h0 => onO_w fun vs hvs => onO_w fun cells hc => newS_w (v_end ?_)
    exact buildSlice_ok ho (sliceOf_eq he) hie hz h1 h0 (evp_eq hvs) hc (fun i x hx => List.all_eq_true.1 hfl x (Array.mem_toList_iff.2 (Array.mem_of_getElem? hx)))
  · obtain rfl := Nat.eq_of_beq_eq_true hn
    exact onB_w fun hp => newS_w (v_end (buildSlice0_ok ho (sliceOf_eq he) hie (List.isEmpty_iff.1 hp)))
theorem xMakeMap_v {t : TypeId} {r : Option Operand} (ho : o.op = .makeMap t r) : W (VI P o f s k) (xMakeMap r s k) := by
  cases r with
  | none =>
    show W _ (newS s (.map [] 0) fun n s => k (.map (some n)) s)
    exact newS_w (v_end (makeMap_ok ho))
  | some r => exact W.fail 70
theorem xMakeSlice_v {t : TypeId} {x y : Operand} (ho : o.op = .makeSlice t x y) : W (VI P o f s k) (xMakeSlice P t x y f s k) :=
  onO_w fun e he => onO_w fun ie hie => onO_w fun z hz => onO_w fun v hv => onO_w fun u hu => onInt_w fun i a ha => onInt_w fun j b hb => onNat_w fun l hl => onNat_w fun c hc => forceN_w (forceN_w (ble_w fun h1 => ble_w fun h2 => ble_w fun h3 => onB_w fun hfl => ne_w fun h0 => newS_w (by
    subst ha hb hl hc
    exact v_end (makeSlice_ok ho (sliceOf_eq he) hie hz (ev_eq hv) (ev_eq hu) h1 h2 h3 hfl h0))))
theorem xUpdate_v {t : TypeId} {m ky x : Operand} (ho : o.op = .mapUpdate t m ky x ∨ o.op = .insert t m ky x) : W (VI P o f s k) (xUpdate P t m ky x f s k) :=
  onO_w fun ke hke => onO_w fun kd hkd => onO_w fun mv hmv => onO_w fun kv hkv => onB_w fun hfl => onO_w fun v hv => onMap_w fun n hm => onO_w fun n hn => onEnts_w fun es clock hh => onO_w fun _ hck => onO_w fun r hfk => by
    subst hm hn
    refine opt_w (fun hr => ?_) (fun r hr => ?_)
    · subst hr
      exact setS_w (s_end (updateNew_ok ho ⟨mapOf_eq hke, hkd, ev_eq hmv, hh, ev_eq hkv, hfl, hfk⟩ hck (ev_eq hv)))
    · subst hr
      exact onO_w fun e0 he0 => onB_w fun hb => setS_w (s_end (updateOld_ok ho ⟨mapOf_eq hke, hkd, ev_eq hmv, hh, ev_eq hkv, hfl, hfk⟩ hck (ev_eq hv) he0 hb))
theorem xMapEntry_v {t : TypeId} {m ky : Operand} (ho : o.op = .mapEntry t m ky) : W (VI P o f s k) (xMapEntry P t m ky f s k) :=
  onO_w fun ke hke => onO_w fun kd hkd => onO_w fun ie hie => onO_w fun z hz => onB_w fun hfz => onO_w fun mv hmv => onO_w fun kv hkv => onB_w fun hfl => onMap_w fun n hm => onO_w fun n hn => onEnts_w fun es clock hh => onO_w fun _ hck => onO_w fun r hfk => by
    subst hm hn
    refine opt_w (fun hr => ?_) (fun r hr => ?_)
    · subst hr
      exact setS_w (v_end (mapEntryNew_ok ho ⟨mapOf_eq hke, hkd, ev_eq hmv, hh, ev_eq hkv, hfl, hfk⟩ hie hz hfz hck))
    · subst hr
      exact onO_w fun e0 he0 => onB_w fun hb => onB_w fun hq => setS_w (v_end (mapEntryOld_ok ho ⟨mapOf_eq hke, hkd, ev_eq hmv, hh, ev_eq hkv, hfl, hfk⟩ hck he0 hb (veq_eq hq)))
theorem xEntryStore_v {t : TypeId} {m st x : Operand} (ho : o.op = .entryStore t m st x) : W (VI P o f s k) (xEntryStore m st x f s k) :=
  onO_w fun mv hmv => onO_w fun bv hbv => onO_w fun v hv => onMap_w fun n hm => onO_w fun n hn => onInt_w fun i z hz => onNat_w fun b hb => onEnts_w fun es clock hh => onO_w fun q hq => by
    subst hm hn hz hb
    exact setS_w (s_end (entryStore_ok ho (ev_eq hmv) (ev_eq hbv) (ev_eq hv) hh hq))
theorem xRange_v {t : TypeId} {x : Operand} (ho : o.op = .range t x) : W (VI P o f s k) (xRange P t x f s k) := onO_w fun v hv => onO_w fun d hd => by
  split
  · exact newS_w (v_end (rangeStr_ok ho hd (ev_eq hv)))
  · exact onEnts_w fun es clock hn => newS_w (v_end (rangeMap_ok ho hd (ev_eq hv) hn))
  · exact W.fail 86
theorem xNext_v {it : Operand} {str : Bool} (ho : o.op = .next it str) : W (VI P o f s k) (xNext it str f s k) := onO_w fun v hv => onPtr_w fun n q hq => beq_w fun h0 => onO_w fun a ha => by
  subst hq h0
  split
  · rename_i b pos
    have h := nextStr_ok (P := P) ho (ev_eq hv) ha
    rcases hnp : nextS b pos with ⟨u, p⟩
    rw [hnp] at h
    exact forceN_w (setS_w (v_end h))
  · refine onEnts_w fun es clock hh => ?_
    split
    · exact (q_end (nextOver_ok ho (ev_eq hv) ha hh)).qv
    · exact ble_w fun hb => setS_w (v_end (nextOne_ok ho (ev_eq hv) ha hh hb))
    · refine beq_w fun hb => ble_w fun hb2 => ?_
      subst hb
      exact (q_end (nextDone_ok ho (ev_eq hv) ha hh hb2)).qv
    · exact W.fail 91
  · exact W.fail 92
theorem arr1 {α : Type} {a : Array α} {x : α} (h : a.toList = [x]) : a = #[x] := Array.ext' h
theorem arr2 {α : Type} {a : Array α} {x y : α} (h : a.toList = [x, y]) : a = #[x, y] := Array.ext' h
theorem arr_hd {α : Type} {a : Array α} {x : α} {l : List α} (h : a.toList = x :: l) : a[0]? = some x := by
  rw [← Array.getElem?_toList, h]
  rfl
theorem arr_nx {α : Type} {a : Array α} {x y : α} {l : List α} (h : a.toList = x :: y :: l) : a[1]? = some y := by
  rw [← Array.getElem?_toList, h]
  rfl
theorem xAppend_v {c : Call} {t0 t1 : TypeId} {x y : Operand} (ho : o.op = .call c) (hc : c.callee = .builtin .append) (ha : c.args = #[x, y]) (h0 : c.argTypes[0]? = some t0) (h1 : c.argTypes[1]? = some t1) : W (VI P o f s k) (xAppend P t0 t1 x y f s k) :=
  onO_w fun elem he => onO_w fun d1 hd1 => not_w fun hni => onO_w fun inf hi => onO_w fun z hz => beq_w fun hzs => ble_w fun hby => onO_w fun v hv => onO_w fun u hu => onO_w fun r hr => onSl_w fun b l cp hb => forceN_w (by
    obtain ⟨q, vs⟩ := r
    subst hb
    have A : AppT P o c x y elem inf z d1 t0 t1 := ⟨ho, hc, ha, h0, h1, sliceOf_eq he, hd1, hni, hi, hz, hzs, hby⟩
    have hlen := srcA_len hr
    have hx := ev_eq hv
    have hy := ev_eq hu
    refine bool_w (fun hq => ?_) (fun hq => ?_)
    · have hq : 0 < q := Nat.pos_of_ne_zero fun e => by
        subst e
        cases hq
      refine onB_w fun hall => ?_
      rw [allOne_eq] at hall
      refine opt_w (fun hb => ?_) (fun a hb => ?_)
      · subst hb
        refine beq_w fun h1 => beq_w fun h2 => ble_w fun h3 => newS_w ?_
        subst h1 h2
        exact v_end (appendNil_ok A hx hy hr hq h3)
      · subst hb
        obtain ⟨n, p, spot⟩ := a
        refine onCells_w fun t m e sz fz hn => opt_w (fun hs => ?_) (fun sp hs => ?_)
        · subst hs
          refine bool_w (fun _ => ?_) (fun hin => ?_)
          · refine beq_w fun h1 => beq_w fun h2 => ble_w fun h3 => ble_w fun h4 => ble_w fun h5 => beq_w fun h6 => onO_w fun nt hnt => forceN_w (newS_w ?_)
            subst h1 h2
            refine v_end (appendGrow_ok A (.inl hx) hy hr hn hall h3 h4 h5 h6 (fun i w hi hg => growT_get hnt i w ?_ hg))
            rw [hlen]
            show i < l * inf.size + q * inf.size
            rw [← Nat.add_mul]
            exact hi
          · refine ble_w fun h1 => ble_w fun h2 => forceN_w (setS_w (v_end ?_))
            exact appendIn_ok A hx hy hr hn hall (Nat.le_of_ble_eq_true hin) h1 h2
        · subst hs
          refine bool_w (fun _ => W.fail 108) (fun h0 => ?_)
          obtain rfl := Nat.eq_of_beq_eq_true h0
          refine ble_w fun h1 => ble_w fun h2 => ble_w fun h3 => onO_w fun nt hnt => forceN_w (newS_w (v_end ?_))
          refine appendFx_ok A hx hy hr (.inl hn) h1 h2 h3 (fun i w hi hg => growT_get hnt i w ?_ hg)
          rw [hlen]
          show i < l * inf.size + q * inf.size
          rw [← Nat.add_mul]
          exact hi
    · refine onB_w fun hem => ble_w fun hl => ?_
      obtain rfl := Nat.eq_of_beq_eq_true hq
      obtain rfl : vs = [] := List.isEmpty_iff.1 hem
      exact (q_end (appendZero_ok A hx hy hr hl)).qv)
theorem xDelete_v {c : Call} {t : TypeId} {m ky : Operand} (ho : o.op = .call c) (hc : c.callee = .builtin .delete) (ha : c.args = #[m, ky]) (h0 : c.argTypes[0]? = some t) : W (VI P o f s k) (xDelete P t m ky f s k) :=
  onO_w fun ke hke => onO_w fun kd hkd => onO_w fun mv hmv => onO_w fun kv hkv => onB_w fun hfl => onMap_w fun n hm => onO_w fun n hn => onEnts_w fun es clock hh => onO_w fun _ hck => onO_w fun r hfk => setS_w (by
    subst hm hn
    exact v_end (delete_ok ho hc ha h0 ⟨mapOf_eq hke, hkd, ev_eq hmv, hh, ev_eq hkv, hfl, hfk⟩ hck))
theorem xClear_v {c : Call} {t : TypeId} {x : Operand} (ho : o.op = .call c) (hc : c.callee = .builtin .clear) (ha : c.args = #[x]) (h0 : c.argTypes[0]? = some t) : W (VI P o f s k) (xClear P t x f s k) :=
  onO_w fun e he => onO_w fun inf hi => onO_w fun z hz => onO_w fun v hv => onSl_w fun a l cp hb => by
    subst hb
    cases l with
    | zero => exact W.fail 119
    | succ l =>
      refine onPlace_w fun n q spot hs => onB_w fun hsp => onCells_w fun tr m e2 sz fz hn => onB_w fun h1 => onB_w fun h2 => ble_w fun h3 => ble_w fun h4 => setS_w ?_
      subst hs
      cases spot with
      | none => exact v_end (clear_ok ho hc ha h0 (sliceOf_eq he) hi hz (ev_eq hv) hn h1 h2 h3 h4)
      | some j => cases hsp
theorem enter_v {g : FuncId} {vs : List Value} (hcl : ClOk P cl) (h : enterOk P g = true → CallOk P o f s g vs.toArray) : W (VI P o f s k) (enter P cl g vs s k) := onB_w fun hg => by
  intro hok
  unfold onCR at hok ⊢
  rcases hc : cl g vs s with n | ⟨v, s'⟩
  · rw [hc] at hok
    exact hok.elim
  · refine ⟨v, s', rfl, fun ρ w a hr hf => ?_⟩
    obtain ⟨us, h1, h2⟩ := h hg ρ w a hr hf
    unfold Does
    rw [h1]
    refine Calls.mono (hcl g vs s v s' hc ρ w us hr h2) fun e w' he => ?_
    cases e with
    | returned u => exact he
    | panicked ch => exact he
    | outgrown => exact he
theorem xCall_v (hcl : ClOk P cl) {c : Call} (ho : o.op = .call c) : W (VI P o f s k) (xCall P cl o c f s k) := by
  unfold xCall
  rcases hc : c.callee with x | ⟨x, m⟩ | b
  · refine onO_w fun v hv => onFun_w fun g fs cs hg => onO_w fun vs hvs => ?_
    subst hg
    refine enter_v hcl fun hen => ?_
    rw [app_eq, app_eq]
    have := callFn_ok ho hc (ev_eq hv) (evs_eq hvs) hen (s := s)
    have e : (fs.toList ++ (vs ++ cs.toList)).toArray = fs ++ vs.toArray ++ cs := by
      apply Array.ext'
      simp
    rw [e]
    exact this
  · refine onO_w fun v hv => onIface_w fun t u hu => onO_w fun g hg => onO_w fun vs hvs => ?_
    subst hu
    refine enter_v hcl fun hen => ?_
    have := invoke_ok ho hc (ev_eq hv) (evs_eq hvs) hg hen (s := s)
    have e : (u :: vs).toArray = #[u] ++ vs.toArray := by
      apply Array.ext'
      simp
    rw [e]
    exact this
  · simp only
    split
    · rename_i h1 h2
      exact (xLen_q ho hc (arr1 h1) (arr_hd h2)).qv
    · rename_i h1 h2
      exact xAppend_v ho hc (arr2 h1) (arr_hd h2) (arr_nx h2)
    · rename_i h1 h2
      exact xDelete_v ho hc (arr2 h1) (arr_hd h2)
    · rename_i h1 h2
      exact xClear_v ho hc (arr1 h1) (arr_hd h2)
    · exact slowOp_q.qv
    · exact slowOp_q.qv
    · exact W.fail 126
theorem xOp_v (hcl : ClOk P cl) : W (VI P o f s k) (xOp P cl o f s k) := by
  unfold xOp
  cases ho : o.op with
  | move x => exact (xMove_q (.inl ho)).qv
  | assign x => exact (xMove_q (.inr ho)).qv
  | pick c x y => exact (xPick_q ho).qv
  | alloc t => exact xAlloc_v ho
  | box t x => exact xBox_v ho
  | build t ps => exact (xBuild_q ho).qv
  | buildSlice t n ps => exact xBuildSlice_v ho
  | insert t m ky x => exact xUpdate_v (.inr ho)
  | load t x => exact (xLoad_q ho).qv
  | store t x y => exact xStore_v ho
  | ready _ => exact W.fail 130
  | waits _ => exact W.fail 131
  | nilCheck x => exact (xNil_q ho).qv
  | binOp op t x y q => exact (xBin_q ho).qv
  | unOp op t x => exact (xUn_q ho).qv
  | convert _ _ _ => exact slowOp_q.qv
  | sliceToArrayPointer _ _ => exact W.fail 132
  | makeInterface t x => exact (xIface_q ho).qv
  | makeFunc g xs ys => exact (xFunc_q ho).qv
  | makeMap t r => exact xMakeMap_v ho
  | makeChan _ _ => exact W.fail 133
  | makeSlice t x y => exact xMakeSlice_v ho
  | slice t x lo hi mx => exact (xSlice_q ho).qv
  | fieldAddr t x i => exact (xField_q ho).qv
  | field t x i => exact (xFieldV_q ho).qv
  | indexAddr t x y => exact (xIndexAddr_q ho).qv
  | index t x y => exact (xIndexV_q ho).qv
  | lookup t x ix ok => exact (xLookup_q ho).qv
  | mapUpdate t m ky x => exact xUpdate_v (.inl ho)
  | mapEntry t m ky => exact xMapEntry_v ho
  | entryStore t m st x => exact xEntryStore_v ho
  | range t x => exact xRange_v ho
  | next it str => exact xNext_v ho
  | entry _ => exact W.fail 137
  | typeAssert x xt t ok => exact (xAssert_q ho).qv
  | extract x i => exact (xExtract_q ho).qv
  | call c => exact xCall_v hcl ho
  | go _ => exact W.fail 138
  | defer _ => exact W.fail 139
  | panic _ => exact W.fail 140
  | send _ _ => exact W.fail 141
  | recv _ _ _ => exact W.fail 142
  | select _ _ => exact W.fail 143
theorem xOp_q (hq : quiet o = true) : W (QI P o f s k) (xOp P cl o f s k) := by
  unfold xOp
  unfold quiet at hq
  cases ho : o.op with
  | move x => exact xMove_q (.inl ho)
  | pick c x y => exact xPick_q ho
  | build t ps => exact xBuild_q ho
  | load t x => exact xLoad_q ho
  | nilCheck x => exact xNil_q ho
  | binOp op t x y q => exact xBin_q ho
  | unOp op t x => exact xUn_q ho
  | convert _ _ _ => exact slowOp_q
  | makeInterface t x => exact xIface_q ho
  | makeFunc g xs ys => exact xFunc_q ho
  | slice t x lo hi mx => exact xSlice_q ho
  | fieldAddr t x i => exact xField_q ho
  | field t x i => exact xFieldV_q ho
  | indexAddr t x y => exact xIndexAddr_q ho
  | index t x y => exact xIndexV_q ho
  | lookup t x ix ok => exact xLookup_q ho
  | typeAssert x xt t ok => exact xAssert_q ho
  | extract x i => exact xExtract_q ho
  | call c =>
    rw [ho] at hq
    simp only at hq
    show W _ (xCall P cl o c f s k)
    unfold xCall
    rcases hc : c.callee with x | ⟨x, m⟩ | b
    · rw [hc] at hq
      cases hq
    · rw [hc] at hq
      cases hq
    · rw [hc] at hq
      simp only at hq ⊢
      split
      · rename_i h1 h2
        exact xLen_q ho hc (arr1 h1) (arr_hd h2)
      · cases hq
      · cases hq
      · cases hq
      · exact slowOp_q
      · exact slowOp_q
      · exact W.fail 126
  | _ =>
    rw [ho] at hq
    cases hq
end
end Go.Proofs.YtjfcjpbolokfcaaGreatDoor.Ev
