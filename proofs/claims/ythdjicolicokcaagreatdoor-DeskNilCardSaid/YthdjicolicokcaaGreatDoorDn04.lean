/-
  An evaluator for closed runs: the interpreter (3: regions, code, calls).
  An evaluator for closed runs: the interpreter is right (1: slots, and how it goes on).
  An evaluator for closed runs: the interpreter is right (2: operations that turn nothing).
  An evaluator for closed runs: the interpreter is right (3: operations that turn something, calls).
-/
import Derived.Test.YthdjicolicokcaaGreatDoorDn03
import Derived.IntWalk
import Derived.Laws.Strings
import Derived.CallsIn
namespace Go.Proofs.YthdjicolicokcaaGreatDoor.Ev
open Go
section
variable (P : Program)
noncomputable def onGuard (v : Value) (k : Bool → R) (no : R) : R :=
  Value.casesOn (motive_1 := fun _ => R) v k (fun _ _ => .fail 158) (fun _ _ => .fail 158) (fun _ _ _ => .fail 158) (fun _ => .fail 158) (fun _ => .fail 158)
    (fun _ _ _ => .fail 158) (fun _ => .fail 158) (fun _ => .fail 158) (fun _ _ _ => .fail 158) (.fail 158) (fun _ _ => .fail 158) (.fail 158) (fun _ => .fail 158) (fun _ => no)
noncomputable def guardR (ops : Array Oper) (o : Oper) (f : T Value) (yes no : R) : R :=
  Option.rec (motive := fun _ => R) yes (fun g => onO 150 (ops[g.1]?) (fun og => onO 151 og.dst (fun d => onO 152 (acc (path d) f) (fun v => onGuard v (fun b => Bool.rec (motive := fun _ => R) (Bool.rec (motive := fun _ => R) yes no g.2) (Bool.rec (motive := fun _ => R) no yes g.2) b) no)))) o.guard
noncomputable def xOps (cl : Cl) (N : Nat) (ops : Array Oper) (l : List Oper) : T Value → St → R :=
  List.rec (motive := fun _ => T Value → St → R) (fun f s => .normal f s) (fun o _ ih f s => guardR ops o f (xOp P cl o f s (fun v s => ih (put N o.dst v f) s)) (ih (put N o.dst undef f) s)) l
noncomputable def sub (m d : Nat) : Bool := Nat.beq (Nat.land m d) m
noncomputable def bit (m i : Nat) : Bool := Nat.beq (Nat.land (Nat.shiftRight m i) 1) 1
noncomputable def add1 (m i : Nat) : Nat := Nat.lor m (Nat.shiftLeft 1 i)
noncomputable def maskL (l : List Edge) : Nat := List.rec (motive := fun _ => Nat) 0 (fun e _ ih => Bool.rec (motive := fun _ => Nat) ih (add1 ih e.on) (Region.binds .any e)) l
noncomputable def mask (o : Oper) : Nat := maskL o.after.toList
noncomputable def isA (N : Nat) (o : Oper) : Bool := match o.op, o.dst, o.guard with
  | .alloc t, some d, none => match P.info? t with
    | some i => band (Option.isSome i.zero) (Nat.ble (d + 1) N)
    | none => false
  | _, _, _ => false
noncomputable def pickI (ok : Oper → Bool) (d : Nat) (l : List (Nat × Oper)) : Option Nat := List.rec (motive := fun _ => Option Nat) none (fun x _ ih => Bool.rec (motive := fun _ => Option Nat) ih (some x.1) (band (ok x.2) (sub (mask x.2) d))) l
noncomputable def rm (i : Nat) (l : List (Nat × Oper)) : List (Nat × Oper) := List.rec (motive := fun _ => List (Nat × Oper)) [] (fun x t ih => Bool.rec (motive := fun _ => List (Nat × Oper)) (x :: ih) t (Nat.beq x.1 i)) l
noncomputable def forceL {α : Type} (n : Nat) (k : Nat → α) : α := Nat.rec (motive := fun _ => α) (k 0) (fun m _ => k (Nat.succ m)) n
noncomputable def orderF (N fuel : Nat) : Nat → List (Nat × Oper) → List Nat := Nat.rec (motive := fun _ => Nat → List (Nat × Oper) → List Nat) (fun _ _ => []) (fun _ ih d l =>
  Option.rec (motive := fun _ => List Nat) (Option.rec (motive := fun _ => List Nat) (Option.rec (motive := fun _ => List Nat) [] (fun i => forceL i (fun i => forceL (add1 d i) (fun d => i :: ih d (rm i l)))) (pickI (isA P N) d l)) (fun i => forceL i (fun i => forceL (add1 d i) (fun d => i :: ih d (rm i l)))) (pickI (fun o => band (bnot (quiet o)) (bnot (isA P N o))) d l)) (fun i => forceL i (fun i => forceL (add1 d i) (fun d => i :: ih d (rm i l)))) (pickI quiet d l)) fuel
noncomputable def numb (l : List Oper) : Nat → List (Nat × Oper) := List.rec (motive := fun _ => Nat → List (Nat × Oper)) (fun _ => []) (fun o _ ih i => forceL i (fun i => (i, o) :: ih (i + 1))) l
noncomputable def order (N : Nat) (ops : Array Oper) : List Nat := orderF P N ops.size 0 (numb ops.toList 0)
noncomputable def allL {α : Type} (p : α → Bool) (l : List α) : Bool := List.rec (motive := fun _ => Bool) true (fun x _ ih => band (p x) ih) l
noncomputable def allocs (N : Nat) (l : List (Nat × Oper)) : Nat := List.rec (motive := fun _ => Nat) 0 (fun x _ ih => Bool.rec (motive := fun _ => Nat) ih (add1 ih x.1) (isA P N x.2)) l
noncomputable def alone (N : Nat) (l : List (Nat × Oper)) (d i : Nat) : Bool := allL (fun x => Bool.rec (motive := fun _ => Bool) (Bool.rec (motive := fun _ => Bool) (Bool.rec (motive := fun _ => Bool) (Bool.rec (motive := fun _ => Bool) (bnot (sub (mask x.2) (Nat.lor d (allocs P N l)))) true (bit (mask x.2) i)) true (isA P N x.2)) true (Nat.beq x.1 i)) true (bit d x.1)) l
noncomputable def okOrd (N : Nat) (l : List (Nat × Oper)) (ops : Array Oper) (pi : List Nat) : Nat → Bool := List.rec (motive := fun _ => Nat → Bool) (fun d => allL (fun x => bit d x.1) l)
  (fun i _ ih d => band (bnot (bit d i)) (Option.rec (motive := fun _ => Bool) false (fun o => band (sub (mask o) d) (band (Bool.rec (motive := fun _ => Bool) (alone P N l d i) true (quiet o)) (forceL (add1 d i) ih))) (nth ops.toList i))) pi
noncomputable def memN (d : Nat) (l : List Nat) : Bool := List.rec (motive := fun _ => Bool) false (fun x _ ih => Bool.rec (motive := fun _ => Bool) ih true (Nat.beq x d)) l
noncomputable def okSlots (N : Nat) (l : List (Nat × Oper)) (ops : Array Oper) : Bool := allL (fun x => Option.rec (motive := fun _ => Bool) true (fun d => Bool.rec (motive := fun _ => Bool)
    (Bool.rec (motive := fun _ => Bool) true (allL (fun y => Bool.rec (motive := fun _ => Bool) (band (Option.rec (motive := fun _ => Bool) true (fun e => bnot (Nat.beq e d)) y.2.dst) (Bool.rec (motive := fun _ => Bool) true (Bool.rec (motive := fun _ => Bool) (bit (mask x.2) y.1) true (bit (mask y.2) x.1)) (memN d (y.2.looksAt ops)))) true (Nat.beq y.1 x.1)) l) (isA P N x.2))
    (band (bnot (memN d (x.2.looksAt ops))) (allL (fun y => Bool.rec (motive := fun _ => Bool) (band (Option.rec (motive := fun _ => Bool) true (fun e => bnot (Nat.beq e d)) y.2.dst) (Bool.rec (motive := fun _ => Bool) true (bit (mask y.2) x.1) (memN d (y.2.looksAt ops)))) true (Nat.beq y.1 x.1)) l))
    (quiet x.2)) x.2.dst) l
noncomputable def okDraw (N : Nat) (ops : Array Oper) : Bool := band (Region.noSelect ops) (band (okSlots P N (numb ops.toList 0) ops) (okOrd P N (numb ops.toList 0) ops (order P N ops) 0))
noncomputable def slotIs (N : Nat) (d : Option Tmp) (v : Value) (f : T Value) (r : R) : R := Option.rec (motive := fun _ => R) r (fun d => Bool.rec (motive := fun _ => R) r (onO 200 (acc (path d) f) (fun u => onB 201 (veq u v) r)) (Nat.ble (Nat.succ d) N)) d
noncomputable def again (cl : Cl) (N : Nat) (ops : Array Oper) (l : List Nat) (f : T Value) (s : St) (r : R) : R := List.rec (motive := fun _ => R) r (fun i _ ih => onO 202 (nth ops.toList i) (fun o => guardR ops o f (xOp P cl o f s (fun v _ => slotIs N o.dst v f ih)) (slotIs N o.dst undef f ih))) l
noncomputable def clos (ops : Array Oper) (D : List Nat) : Nat → Nat := List.rec (motive := fun _ => Nat → Nat) (fun m => m) (fun i _ ih m => Bool.rec (motive := fun _ => Nat) (ih m) (Option.rec (motive := fun _ => Nat) (ih m) (fun o => forceL (Nat.lor m (mask o)) ih) (nth ops.toList i)) (bit m i)) D
noncomputable def behind (ops : Array Oper) (m : Nat) (D : List Nat) : List Nat := List.rec (motive := fun _ => List Nat) [] (fun i _ ih => Bool.rec (motive := fun _ => List Nat) (Option.rec (motive := fun _ => List Nat) ih (fun o => Bool.rec (motive := fun _ => List Nat) ih (i :: ih) (quiet o)) (nth ops.toList i)) ih (bit m i)) D
noncomputable def xDr (cl : Cl) (N : Nat) (ops : Array Oper) (pi : List Nat) : List Nat → T Value → St → R :=
  List.rec (motive := fun _ => List Nat → T Value → St → R) (fun _ f s => .normal f s)
    (fun i _ ih D f s => onO 203 (nth ops.toList i) (fun o => Bool.rec (motive := fun _ => R)
      (guardR ops o f (xOp P cl o f s (fun v s => again P cl N ops (behind ops (clos ops D (mask o)) D) (put N o.dst v f) s (ih (i :: D) (put N o.dst v f) s)))
        (again P cl N ops (behind ops (clos ops D (mask o)) D) (put N o.dst undef f) s (ih (i :: D) (put N o.dst undef f) s)))
      (guardR ops o f (xOp P cl o f s (fun v s => ih (i :: D) (put N o.dst v f) s)) (ih (i :: D) (put N o.dst undef f) s))
      (quiet o))) pi
noncomputable def xDrawn (cl : Cl) (N : Nat) (ops : Array Oper) (f : T Value) (s : St) : R := onB 204 (okDraw P N ops) (xDr P cl N ops (order P N ops) [] f s)
noncomputable def isIns (d0 : Tmp) (kk : IntKind) (o : Oper) : Option (Int × Operand) := match o.op, o.dst, o.guard with
  | .insert t (.tmp d) (.const (.int k z)) x, none, none => match mapOf P t with
    | some ke => match P.underlying ke.1 with
      | some (.int _) => match band (Nat.beq d d0) (sameKind k kk) with
        | true => some (z, x)
        | false => none
      | _ => none
    | none => none
  | _, _, _ => none
noncomputable def mapHead (ops : Array Oper) : Option Tmp := match ops[0]? with
  | some o => match o.op, o.dst, o.guard with
    | .makeMap _ none, some d, none => match Nat.beq (mask o) 0 with
      | true => some d
      | false => none
    | _, _, _ => none
  | none => none
noncomputable def firstKind (l : List Oper) : Option IntKind := List.rec (motive := fun _ => Option IntKind) none (fun o _ ih => match o.op with
  | .insert _ _ (.const (.int k _)) _ => some k
  | _ => ih) l
noncomputable def full (m : Nat) : Nat := Nat.rec (motive := fun _ => Nat) 0 (fun i ih => add1 ih i) m
noncomputable def downFrom (m : Nat) : List Nat := Nat.rec (motive := fun _ => List Nat) [] (fun i ih => i :: ih) m
noncomputable def qList (m : Nat) (l : List (Nat × Oper)) : List Nat := List.rec (motive := fun _ => List Nat) [] (fun x _ ih => Bool.rec (motive := fun _ => List Nat) ih (x.1 :: ih) (band (Nat.ble 1 x.1) (band (Nat.ble (x.1 + 1) m) (quiet x.2)))) l
noncomputable def okQ (ops : Array Oper) (q : List Nat) : Nat → Bool := List.rec (motive := fun _ => Nat → Bool) (fun _ => true) (fun i _ ih d => band (bnot (bit d i)) (Option.rec (motive := fun _ => Bool) false (fun o => band (sub (mask o) d) (forceL (add1 d i) ih)) (nth ops.toList i))) q
noncomputable def notTmp (d0 : Tmp) (x : Operand) : Bool := match x with
  | .tmp t => bnot (Nat.beq t d0)
  | _ => true
noncomputable def kindOk (ops : Array Oper) (d0 : Tmp) (kk : IntKind) (m : Nat) (x : Nat × Oper) : Bool :=
  Bool.rec (motive := fun _ => Bool) true
    (Bool.rec (motive := fun _ => Bool) (sub (full m) (mask x.2))
      (band (sub (mask x.2) (full x.1)) (Bool.rec (motive := fun _ => Bool)
        (band (bit (mask x.2) 0) (match isIns P d0 kk x.2 with
          | some (_, y) => notTmp d0 y
          | none => false))
        (band (Option.isNone x.2.guard) (band (bnot (memN d0 (x.2.looksAt ops))) (Option.rec (motive := fun _ => Bool) true (fun e => bnot (Nat.beq e d0)) x.2.dst)))
        (quiet x.2)))
      (Nat.ble (x.1 + 1) m))
    (Nat.ble 1 x.1)
noncomputable def oneOk (d0 : Tmp) (kk : IntKind) (l : List (Nat × Oper)) (x : Nat × Oper) : Bool := match isIns P d0 kk x.2 with
  | some (z, _) => allL (fun y => match isIns P d0 kk y.2 with
    | some (z', _) => Bool.rec (motive := fun _ => Bool) (bnot (intEq z z')) true (Nat.beq x.1 y.1)
    | none => true) l
  | none => true
noncomputable def okMap (N : Nat) (ops : Array Oper) (d0 : Tmp) (kk : IntKind) (m : Nat) : Bool :=
  band (Region.noSelect ops) (band (okSlots P N (numb ops.toList 0) ops) (band (Nat.beq ops.size (m + 2)) (band (Nat.ble 1 m) (band (Nat.ble (d0 + 1) N) (band (allL (kindOk P ops d0 kk m) (numb ops.toList 0)) (band (allL (oneOk P d0 kk (numb ops.toList 0)) (numb ops.toList 0)) (band (okQ ops (qList m (numb ops.toList 0)) 0) (okOrd P N (numb ops.toList 0) ops [m, m + 1] (full m)))))))))
noncomputable def xQ (cl : Cl) (N : Nat) (ops : Array Oper) (q : List Nat) (s : St) (k : T Value → R) : T Value → R := List.rec (motive := fun _ => T Value → R) (fun f => k f) (fun i _ ih f => onO 203 (nth ops.toList i) (fun o => onB 235 (band (quiet o) (Option.isNone o.guard)) (xOp P cl o f s (fun v _ => ih (put N o.dst v f))))) q
noncomputable def entS (d0 : Tmp) (kk : IntKind) (f : T Value) (o : Oper) (ih : Option (List MapEntry)) : Option (List MapEntry) := match isIns P d0 kk o with
  | some (z, y) => match ev y f, ih with
    | some v, some E => some (⟨.int kk z, v, 0⟩ :: E)
    | _, _ => none
  | none => ih
noncomputable def entsE (d0 : Tmp) (kk : IntKind) (m : Nat) (f : T Value) (l : List (Nat × Oper)) : Option (List MapEntry) := List.rec (motive := fun _ => Option (List MapEntry)) (some []) (fun x _ ih => Bool.rec (motive := fun _ => Option (List MapEntry)) ih (entS P d0 kk f x.2 ih) (Nat.ble (x.1 + 1) m)) l
noncomputable def memK (kk : IntKind) (z : Int) (es : List MapEntry) : Bool := List.rec (motive := fun _ => Bool) false (fun e _ ih => Bool.rec (motive := fun _ => Bool) ih true (keyIs e.key kk z)) es
noncomputable def nodS (e : MapEntry) (t : List MapEntry) (ih : Bool) : Bool := match e.key with
  | .int kk z => band (bnot (memK kk z t)) ih
  | _ => false
noncomputable def nodupE (es : List MapEntry) : Bool := List.rec (motive := fun _ => Bool) true (fun e t ih => nodS e t ih) es
noncomputable def xMapLit (cl : Cl) (N : Nat) (ops : Array Oper) (f : T Value) (s : St) : R :=
  onO 230 (mapHead ops) (fun d0 => onO 231 (firstKind ops.toList) (fun kk => forceN (Nat.sub ops.size 2) (fun m => onB 232 (okMap P N ops d0 kk m) (xQ P cl N ops (qList m (numb ops.toList 0)) s (fun f =>
    onO 233 (entsE P d0 kk m f (numb ops.toList 0)) (fun E => onB 234 (nodupE E) (newS s (.pmap E) (fun n s2 => xDr P cl N ops [m, m + 1] (downFrom m) (put N (some d0) (.map (some n)) f) s2)))) f))))
noncomputable def isInsert (o : Oper) : Bool := match o.op with
  | .insert .. => true
  | _ => false
noncomputable def isLit (ops : Array Oper) : Bool := band (Option.isSome (mapHead ops)) (bnot (allL (fun o => bnot (isInsert o)) ops.toList))
noncomputable def xDraw (chk : Bool) (cl : Cl) (N : Nat) (ops : Array Oper) (f : T Value) (s : St) : R := Bool.rec (motive := fun _ => R) (Bool.rec (motive := fun _ => R) (xDr P cl N ops (order P N ops) [] f s) (xMapLit P cl N ops f s) (isLit ops)) (Bool.rec (motive := fun _ => R) (xMapLit P cl N ops f s) (xDr P cl N ops (order P N ops) [] f s) (okDraw P N ops)) chk
noncomputable def drawOk (N : Nat) (ops : Array Oper) : Bool := Bool.rec (motive := fun _ => Bool) (okDraw P N ops) true (isLit ops)
noncomputable def drawsOk (N : Nat) (c : Code) : Bool :=
  Code.rec (motive := fun _ => Bool) true (fun _ ops draw => Bool.rec (motive := fun _ => Bool) true (drawOk P N ops) draw) (fun _ _ a b => band a b) (fun _ _ _ a b => band a b) (fun _ _ a => a) (fun _ a => a) (fun _ _ _ _ _ _ => true) (fun _ => true) (fun _ _ => true) (fun _ => true) (fun _ => true) true (fun _ => true) c
noncomputable def drawsF (bad : List Nat) (l : List Func) : Nat → Bool := List.rec (motive := fun _ => Nat → Bool) (fun _ => true) (fun fn _ ih k => band (Bool.rec (motive := fun _ => Bool) (Option.rec (motive := fun _ => Bool) true (fun c => drawsOk P fn.ntmps c) fn.body) true (memN k bad)) (forceL (Nat.succ k) ih)) l
noncomputable def drawsAll (bad : List Nat) : Bool := drawsF P bad P.funcs.toList 0
noncomputable def xRangeF (cl : Cl) (N : Nat) (g : Operand) (ps : Array Tmp) (assign body : Code) (f : T Value) (s : St) : R :=
  onO 210 (ev g f) (fun v => onFun v (fun G fs cs => newS s (.loop f N ps assign body) (fun l s => onB 211 (enterOk P G) (onCR (cl false G (app fs.toList (.func (.yield l) #[] #[] :: cs.toList)) s) (fun _ s => onLoop s l (fun _ _ _ _ _ => .normal f ⟨s.h.del l, s.nx⟩))))) (fun _ => .fail 212))
inductive CodeF where
  | mk (r : Cl → T Value → St → R)
noncomputable def runC (c : CodeF) (cl : Cl) (f : T Value) (s : St) : R := CodeF.rec (motive := fun _ => R) (fun r => r cl f s) c
noncomputable def codeF (chk : Bool) (N fuel : Nat) (rnd : Bool) (c : Code) : CodeF :=
  Code.rec (motive := fun _ => CodeF)
    (.mk (fun _ f s => .normal f s))
    (fun _ ops draw => Bool.rec (motive := fun _ => CodeF) (.mk (fun cl f s => xOps P cl N ops ops.toList f s)) (.mk (fun cl f s => xDraw P chk cl N ops f s)) draw)
    (fun _ _ iha ihb => .mk (fun cl f s => R.rec (motive := fun _ => R) (fun n => .fail n) (fun f s => runC ihb cl f s) (fun f s => .ret f s) (fun i f s => .exit i f s) (runC iha cl f s)))
    (fun c _ _ iha ihb => .mk (fun cl f s => onO 153 (ev c f) (fun v => onBool v (fun b => Bool.rec (motive := fun _ => R) (runC ihb cl f s) (runC iha cl f s) b))))
    (fun id _ ih => .mk (fun cl f s => R.rec (motive := fun _ => R) (fun n => .fail n) (fun f s => .normal f s) (fun f s => .ret f s) (fun i f s => Bool.rec (motive := fun _ => R) (.exit i f s) (.normal f s) (Nat.beq i id)) (runC ih cl f s)))
    (fun _ ih => .mk (fun cl f s => Nat.rec (motive := fun _ => T Value → St → R) (fun _ _ => .fail 154) (fun _ lp f s => R.rec (motive := fun _ => R) (fun n => .fail n) lp (fun f s => .ret f s) (fun i f s => .exit i f s) (runC ih cl f s)) fuel f s))
    (fun g ps asg bd _ _ => Bool.rec (motive := fun _ => CodeF) (.mk (fun cl f s => xRangeF P cl N g ps asg bd f s)) (.mk (fun _ _ _ => .fail 155)) rnd)
    (fun id => .mk (fun _ f s => .exit id f s))
    (fun _ _ => .mk (fun _ _ _ => .fail 159))
    (fun _ => .mk (fun _ f s => .normal f s))
    (fun _ => .mk (fun _ _ _ => .fail 156))
    (.mk (fun _ f s => .ret f s))
    (fun _ => .mk (fun _ _ _ => .fail 157))
    c
noncomputable def xCode (chk : Bool) (cl : Cl) (N fuel : Nat) (rnd : Bool) (c : Code) (f : T Value) (s : St) : R := runC (codeF P chk N fuel rnd c) cl f s
noncomputable def onOC {α : Type} (why : Nat) (o : Option α) (k : α → CR) : CR := Option.rec (motive := fun _ => CR) (.fail why) k o
noncomputable def resV (f : T Value) (s : St) (r : ResultVar) : Option Value :=
  ResultVar.rec (motive := fun _ => Option Value) (fun t => acc (path t) f)
    (fun a ty => Option.rec (motive := fun _ => Option Value) none (fun v => match v, P.underlying ty with
      | .pointer (some ⟨n, k, none⟩), some d => match s.h.get n with
        | some (.cells t m _ _ _) => match isAggD d with
          | false => match Nat.ble (k + 1) m with
            | true => t.get k
            | false => none
          | true => match P.info? ty with
            | some i => match Nat.ble (k + i.size) m with
              | true => match readF t k i.size with
                | some vs => some (.agg vs.toArray)
                | none => none
              | false => none
            | none => none
        | _ => none
      | _, _ => none) (acc (path a) f)) r
noncomputable def resVs (f : T Value) (s : St) (rs : List ResultVar) : Option (List Value) :=
  List.rec (motive := fun _ => Option (List Value)) (some []) (fun r _ ih => Option.rec (motive := fun _ => Option (List Value)) none (fun v => Option.rec (motive := fun _ => Option (List Value)) none (fun vs => some (v :: vs)) ih) (resV P f s r)) rs
noncomputable def single (vs : List Value) : Value := match vs with
  | [v] => v
  | vs => .tuple vs.toArray
noncomputable def xRes (fn : Func) (f : T Value) (s : St) : CR := onOC 160 (resVs P f s fn.results.toList) (fun vs => .ok (single vs) s)
noncomputable def xBody (bad : List Nat) (cl : Cl) (fuel : Nat) (g : Nat) (vs : List Value) (s : St) : CR :=
  onOC 162 (nth P.funcs.toList g) (fun fn => onOC 163 fn.body (fun c => Bool.rec (motive := fun _ => CR) (.fail 165) (R.rec (motive := fun _ => CR) (fun n => .fail (Nat.add (Nat.mul n 1000) g)) (fun f s => xRes P fn f s) (fun f s => xRes P fn f s) (fun i _ _ => .fail (Nat.add 164 i)) (xCode P (memN g bad) cl fn.ntmps fuel false c (ofL vs) s)) (Nat.ble vs.length fn.ntmps)))
noncomputable def putAll (N : Nat) (ps : List Tmp) : List Value → T Value → T Value := List.rec (motive := fun _ => List Value → T Value → T Value) (fun _ f => f) (fun p _ ih vs f => match vs with
  | [] => f
  | v :: vs => ih vs (put N (some p) v f)) ps
noncomputable def onLoopC (s : St) (n : Nat) (k : T Value → Nat → Array Tmp → Code → Code → CR) : CR :=
  onOC 220 (s.h.get n) (fun a => AO.rec (motive := fun _ => CR) (fun _ _ _ _ _ => .fail 221) (fun _ _ => .fail 221) (fun _ _ => .fail 221) (fun _ _ _ _ => .fail 221) k (fun _ => .fail 221) (fun _ _ => .fail 221) a)
noncomputable def onNormal (r : R) (k : T Value → St → CR) : CR := R.rec (motive := fun _ => CR) (fun n => .fail (Nat.add (Nat.mul n 1000) 999)) k (fun _ _ => .fail 222) (fun _ _ _ => .fail 223) r
noncomputable def xYield (cl : Cl) (fuel : Nat) (l : Nat) (vs : List Value) (s : St) : CR :=
  onLoopC s l (fun f N ps asg bd => Bool.rec (motive := fun _ => CR) (.fail 224)
    (onNormal (xCode P true cl N fuel true asg (putAll N ps.toList vs f) s) (fun f1 s1 => onLoopC s1 l (fun f2 N2 ps2 as2 bd2 =>
      onNormal (xCode P true cl N fuel true bd f1 ⟨s1.h.del l, s1.nx⟩) (fun _ s2 => .ok (.bool true) ⟨s2.h.set (.loop f2 N2 ps2 as2 bd2) l, s2.nx⟩))))
    (Nat.beq vs.length ps.size))
noncomputable def xCl (bad : List Nat) (hook : Cl → Cl) (fuel : Nat) : Nat → Cl := Nat.rec (motive := fun _ => Cl) (fun _ _ _ _ => .fail 161) (fun _ ih => hook (fun y g vs s => Bool.rec (motive := fun _ => CR) (xBody P bad ih fuel g vs s) (xYield P ih fuel g vs s) y))
end
end Go.Proofs.YthdjicolicokcaaGreatDoor.Ev
namespace Go.Proofs.YthdjicolicokcaaGreatDoor.Ev
open Go
theorem pathF_succ (fuel m : Nat) : pathF (fuel + 1) (m + 1) = match m % 4 with | 0 => .p0 (pathF fuel (m / 4)) | 1 => .p1 (pathF fuel (m / 4)) | 2 => .p2 (pathF fuel (m / 4)) | _ => .p3 (pathF fuel (m / 4)) := by
  have h : m % 4 < 4 := Nat.mod_lt _ (by decide)
  show pick4 (m % 4) (Path.p0 (pathF fuel (m / 4))) (Path.p1 (pathF fuel (m / 4))) (Path.p2 (pathF fuel (m / 4))) (Path.p3 (pathF fuel (m / 4))) = _
  generalize m % 4 = k at h
  match k, h with
  | 0, _ => rfl
  | 1, _ => rfl
  | 2, _ => rfl
  | 3, _ => rfl
theorem node_get {α : Type} (o : Option α) (a b c d : T α) (m j : Nat) (h : m % 4 = j) : (T.node o a b c d).get (m + 1) = (kid a b c d j).get (m / 4) := by rw [get_succ, h]
theorem accF_get : ∀ (fuel n : Nat) (t : T Value) (v : Value), acc (pathF fuel n) t = some v → t.get n = some v
  | 0, n, t, v, h => by cases h
  | fuel + 1, 0, t, v, h => by
    cases t with
    | leaf => cases h
    | node o a b c d => exact h
  | fuel + 1, m + 1, t, v, h => by
    rw [pathF_succ] at h
    have h4 : m % 4 < 4 := Nat.mod_lt _ (by decide)
    cases t with
    | leaf =>
      split at h <;> cases h
    | node o a b c d =>
      split at h
      · rename_i hm
        rw [node_get o a b c d m 0 hm]
        exact accF_get fuel _ _ _ h
      · rename_i hm
        rw [node_get o a b c d m 1 hm]
        exact accF_get fuel _ _ _ h
      · rename_i hm
        rw [node_get o a b c d m 2 hm]
        exact accF_get fuel _ _ _ h
      · rename_i h0 h1 h2
        have hm : m % 4 = 3 := by
          have : m % 4 ≠ 0 := h0
          have : m % 4 ≠ 1 := h1
          have : m % 4 ≠ 2 := h2
          omega
        rw [node_get o a b c d m 3 hm]
        exact accF_get fuel _ _ _ h
theorem acc_get {n : Nat} {t : T Value} {v : Value} (h : acc (path n) t = some v) : t.get n = some v := accF_get 9 n t v h
theorem kid_get {a b c d : T Value} {a' b' c' d' : T Value} {fuel m i j : Nat} {x v : Value} (hj : j < 4) (hm : m % 4 = j) (ih : ∀ (t : T Value) (i : Nat) (v : Value), (putP (pathF fuel (m / 4)) x t).get i = some v → (i = m / 4 ∧ v = x) ∨ (i ≠ m / 4 ∧ t.get i = some v))
    (hk : ∀ q, q < 4 → kid a' b' c' d' q = if q = j then putP (pathF fuel (m / 4)) x (kid a b c d q) else kid a b c d q) {o o' : Option Value} (ho : o' = o) (h : (T.node o' a' b' c' d').get i = some v) : (i = m + 1 ∧ v = x) ∨ (i ≠ m + 1 ∧ (T.node o a b c d).get i = some v) := by
  cases i with
  | zero =>
    refine .inr ⟨by simp, ?_⟩
    rw [← ho]
    exact h
  | succ i =>
    rw [get_succ, hk _ (Nat.mod_lt _ (by decide))] at h
    by_cases hq : i % 4 = j
    · rw [if_pos hq] at h
      rcases ih _ _ _ h with ⟨h1, h2⟩ | ⟨h1, h2⟩
      · exact .inl ⟨by omega, h2⟩
      · exact .inr ⟨by omega, by rw [get_succ]; exact h2⟩
    · rw [if_neg hq] at h
      exact .inr ⟨by omega, by rw [get_succ]; exact h⟩
theorem kid0 (a b c d : T Value) (g : T Value → T Value) : ∀ q, q < 4 → kid (g a) b c d q = if q = 0 then g (kid a b c d q) else kid a b c d q := fun q hq => by
  match q, hq with
  | 0, _ => rfl
  | 1, _ => rfl
  | 2, _ => rfl
  | 3, _ => rfl
theorem kid1 (a b c d : T Value) (g : T Value → T Value) : ∀ q, q < 4 → kid a (g b) c d q = if q = 1 then g (kid a b c d q) else kid a b c d q := fun q hq => by
  match q, hq with
  | 0, _ => rfl
  | 1, _ => rfl
  | 2, _ => rfl
  | 3, _ => rfl
theorem kid2 (a b c d : T Value) (g : T Value → T Value) : ∀ q, q < 4 → kid a b (g c) d q = if q = 2 then g (kid a b c d q) else kid a b c d q := fun q hq => by
  match q, hq with
  | 0, _ => rfl
  | 1, _ => rfl
  | 2, _ => rfl
  | 3, _ => rfl
theorem kid3 (a b c d : T Value) (g : T Value → T Value) : ∀ q, q < 4 → kid a b c (g d) q = if q = 3 then g (kid a b c d q) else kid a b c d q := fun q hq => by
  match q, hq with
  | 0, _ => rfl
  | 1, _ => rfl
  | 2, _ => rfl
  | 3, _ => rfl
theorem leaf_node (i : Nat) (v : Value) (h : (T.node none .leaf .leaf .leaf .leaf : T Value).get i = some v) : (T.leaf : T Value).get i = some v := by
  cases i with
  | zero => exact h
  | succ i =>
    rw [get_succ] at h
    have h4 : i % 4 < 4 := Nat.mod_lt _ (by decide)
    match i % 4, h4, h with
    | 0, _, h => exact h
    | 1, _, h => exact h
    | 2, _, h => exact h
    | 3, _, h => exact h
theorem putF_get : ∀ (fuel n : Nat) (x : Value) (t : T Value) (i : Nat) (v : Value), (putP (pathF fuel n) x t).get i = some v → (i = n ∧ v = x) ∨ (i ≠ n ∧ t.get i = some v)
  | 0, n, x, t, i, v, h => by cases h
  | fuel + 1, 0, x, t, i, v, h => by
    have key : ∀ (o : Option Value) (a b c d : T Value), (∀ i v, (T.node o a b c d).get i = some v → t.get i = some v) → (T.node (some x) a b c d).get i = some v → (i = 0 ∧ v = x) ∨ (i ≠ 0 ∧ t.get i = some v) := fun o a b c d hs h => by
      cases i with
      | zero => exact .inl ⟨rfl, (Option.some.inj h).symm⟩
      | succ i =>
        refine .inr ⟨by simp, hs _ _ ?_⟩
        rw [get_succ] at h ⊢
        exact h
    cases t with
    | leaf => exact key none .leaf .leaf .leaf .leaf leaf_node h
    | node o a b c d => exact key o a b c d (fun _ _ h => h) h
  | fuel + 1, m + 1, x, t, i, v, h => by
    have ih := putF_get fuel (m / 4) x
    rw [pathF_succ] at h
    have h4 : m % 4 < 4 := Nat.mod_lt _ (by decide)
    have key : ∀ (o : Option Value) (a b c d : T Value), (∀ i v, (T.node o a b c d).get i = some v → t.get i = some v) → ((i = m + 1 ∧ v = x) ∨ (i ≠ m + 1 ∧ (T.node o a b c d).get i = some v)) → (i = m + 1 ∧ v = x) ∨ (i ≠ m + 1 ∧ t.get i = some v) := fun o a b c d hs h => by
      rcases h with h | ⟨h1, h2⟩
      · exact .inl h
      · exact .inr ⟨h1, hs _ _ h2⟩
    cases t with
    | leaf =>
      refine key none .leaf .leaf .leaf .leaf leaf_node ?_
      split at h
      · rename_i hm
        exact kid_get (j := 0) (by decide) hm ih (kid0 _ _ _ _ _) rfl h
      · rename_i hm
        exact kid_get (j := 1) (by decide) hm ih (kid1 _ _ _ _ _) rfl h
      · rename_i hm
        exact kid_get (j := 2) (by decide) hm ih (kid2 _ _ _ _ _) rfl h
      · rename_i h0 h1 h2
        have hm : m % 4 = 3 := by
          have : m % 4 ≠ 0 := h0
          have : m % 4 ≠ 1 := h1
          have : m % 4 ≠ 2 := h2
          omega
        exact kid_get (j := 3) (by decide) hm ih (kid3 _ _ _ _ _) rfl h
    | node o a b c d =>
      refine key o a b c d (fun _ _ h => h) ?_
      split at h
      · rename_i hm
        exact kid_get (j := 0) (by decide) hm ih (kid0 _ _ _ _ _) rfl h
      · rename_i hm
        exact kid_get (j := 1) (by decide) hm ih (kid1 _ _ _ _ _) rfl h
      · rename_i hm
        exact kid_get (j := 2) (by decide) hm ih (kid2 _ _ _ _ _) rfl h
      · rename_i h0 h1 h2
        have hm : m % 4 = 3 := by
          have : m % 4 ≠ 0 := h0
          have : m % 4 ≠ 1 := h1
          have : m % 4 ≠ 2 := h2
          omega
        exact kid_get (j := 3) (by decide) hm ih (kid3 _ _ _ _ _) rfl h
theorem putP_get {n : Nat} {x : Value} {t : T Value} {i : Nat} {v : Value} (h : (putP (path n) x t).get i = some v) : (i = n ∧ v = x) ∨ (i ≠ n ∧ t.get i = some v) := putF_get 9 n x t i v h
theorem ev_eq {x : Operand} {f : T Value} {v : Value} (h : ev x f = some v) : evO f x = some v := by
  cases x with
  | tmp t => exact acc_get h
  | const c => exact h
  | global g => cases h
  | func g => exact h
theorem put_sound {ρ : Nat → Nm} {nx : Nat} {f : T Value} {a : Act} (h : FR ρ nx f a) {N : Nat} (hN : a.tmps.size = N) (d : Option Tmp) {v u : Value} (hv : VR ρ nx v u) : FR ρ nx (put N d v f) (a.put d u) := by
  cases d with
  | none => exact h
  | some d =>
    intro t x hx
    change (Bool.rec (motive := fun _ => T Value) f (putP (path d) v f) (Nat.ble (Nat.succ d) N)).get t = some x at hx
    show ∃ y, (a.tmps.setIfInBounds d u)[t]? = some y ∧ _
    rcases hb : Nat.ble (Nat.succ d) N with _ | _
    · rw [hb] at hx
      obtain ⟨y, h1, h2⟩ := h t x hx
      have hd : ¬ d < a.tmps.size := fun hlt => by
        have := Nat.ble_eq_true_of_le (Nat.lt_of_lt_of_eq hlt hN)
        rw [hb] at this
        cases this
      refine ⟨y, ?_, h2⟩
      rw [Array.setIfInBounds_eq_of_size_le (Nat.le_of_not_lt hd)]
      exact h1
    · rw [hb] at hx
      rcases putP_get hx with ⟨rfl, rfl⟩ | ⟨hne, hx⟩
      · have hlt : t < a.tmps.size := by rw [hN]; exact Nat.le_of_ble_eq_true hb
        exact ⟨u, Array.getElem?_setIfInBounds_self_of_lt hlt, hv⟩
      · obtain ⟨y, h1, h2⟩ := h t x hx
        exact ⟨y, by rw [Array.getElem?_setIfInBounds_ne (Ne.symm hne)]; exact h1, h2⟩
def R.ok : R → Prop
  | .fail _ => False
  | _ => True
def W (G : R → Prop) (r : R) : Prop := r.ok → G r
section
variable {G : R → Prop} {n : Nat} {f : T Value} {s : St} {v : Value}
theorem W.fail (n : Nat) : W G (.fail n) := fun h => False.elim h
theorem onO_w {α : Type} {o : Option α} {k : α → R} (h : ∀ x, o = some x → W G (k x)) : W G (onO n o k) := by
  cases o with
  | none => exact W.fail n
  | some x => exact h x rfl
theorem onB_w {b : Bool} {r : R} (h : b = true → W G r) : W G (onB n b r) := by
  cases b with
  | false => exact W.fail n
  | true => exact h rfl
theorem ble_w {a b : Nat} {r : R} (h : a ≤ b → W G r) : W G (onB n (Nat.ble a b) r) := onB_w fun e => h (Nat.le_of_ble_eq_true e)
theorem beq_w {a b : Nat} {r : R} (h : a = b → W G r) : W G (onB n (Nat.beq a b) r) := onB_w fun e => h (Nat.eq_of_beq_eq_true e)
theorem bnot_true {b : Bool} (h : bnot b = true) : b = false := by
  cases b
  · rfl
  · cases h
theorem not_w {b : Bool} {r : R} (h : b = false → W G r) : W G (onB n (bnot b) r) := onB_w fun e => h (bnot_true e)
theorem ne_w {a b : Nat} {r : R} (h : a ≠ b → W G r) : W G (onB n (bnot (Nat.beq a b)) r) := not_w fun e => h fun q => by rw [q, Nat.beq_refl] at e; cases e
theorem bool_w {b : Bool} {x y : R} (h0 : b = false → W G x) (h1 : b = true → W G y) : W G (Bool.rec (motive := fun _ => R) x y b) := by
  cases b with
  | false => exact h0 rfl
  | true => exact h1 rfl
theorem opt_w {α : Type} {o : Option α} {x : R} {k : α → R} (h0 : o = none → W G x) (h1 : ∀ y, o = some y → W G (k y)) : W G (Option.rec (motive := fun _ => R) x k o) := by
  cases o with
  | none => exact h0 rfl
  | some y => exact h1 y rfl
theorem onPtr_w {k : Nat → Nat → R} (h : ∀ n o, v = .pointer (some ⟨n, o, none⟩) → W G (k n o)) : W G (onPtr v k) := by
  cases v with
  | pointer a =>
    cases a with
    | none => exact W.fail 4
    | some a =>
      obtain ⟨n, o, q⟩ := a
      cases q with
      | none => exact h n o rfl
      | some q => exact W.fail 5
  | _ => exact W.fail 3
theorem onInt_w {k : IntKind → Int → R} (h : ∀ a b, v = .int a b → W G (k a b)) : W G (onInt v k) := by
  cases v with
  | int a b => exact h a b rfl
  | _ => exact W.fail 6
theorem onBool_w {k : Bool → R} (h : ∀ b, v = .bool b → W G (k b)) : W G (onBool v k) := by
  cases v with
  | bool b => exact h b rfl
  | _ => exact W.fail 7
theorem onSl_w {k : Option Addr → Nat → Nat → R} (h : ∀ a l c, v = .slice a l c → W G (k a l c)) : W G (onSl v k) := by
  cases v with
  | slice a l c => exact h a l c rfl
  | _ => exact W.fail 8
theorem onMap_w {k : Option Nat → R} (h : ∀ m, v = .map m → W G (k m)) : W G (onMap v k) := by
  cases v with
  | map m => exact h m rfl
  | _ => exact W.fail 9
theorem onAgg_w {k : Array Value → R} (h : ∀ a, v = .agg a → W G (k a)) : W G (onAgg v k) := by
  cases v with
  | agg a => exact h a rfl
  | _ => exact W.fail 10
theorem onTup_w {k : Array Value → R} (h : ∀ a, v = .tuple a → W G (k a)) : W G (onTup v k) := by
  cases v with
  | tuple a => exact h a rfl
  | _ => exact W.fail 11
theorem onFun_w {k : FuncId → Array Value → Array Value → R} {ky : Nat → R} (h : ∀ g a b, v = .func (.func g) a b → W G (k g a b)) (hy : ∀ l a b, v = .func (.yield l) a b → W G (ky l)) : W G (onFun v k ky) := by
  cases v with
  | func g a b =>
    cases g with
    | func g => exact h g a b rfl
    | yield l => exact hy l a b rfl
    | _ => exact W.fail 12
  | _ => exact W.fail 12
theorem onIface_w {k : TypeId → Value → R} (h : ∀ t u, v = .iface t u → W G (k t u)) : W G (onIface v k) := by
  cases v with
  | iface t u => exact h t u rfl
  | _ => exact W.fail 13
theorem onCells_w {k : T Value → Nat → TypeId → Nat → Nat → R} (h : ∀ t m e sz fz, s.h.get n = some (.cells t m e sz fz) → W G (k t m e sz fz)) : W G (onCells s n k) := onO_w fun a ha => by
  cases a with
  | cells t m e sz fz => exact h t m e sz fz ha
  | _ => exact W.fail 15
theorem onEnts_w {k : List MapEntry → Nat → R} (h : ∀ es c, s.h.get n = some (.map es c) → W G (k es c)) : W G (onEnts s n k) := onO_w fun a ha => by
  cases a with
  | map es c => exact h es c ha
  | _ => exact W.fail 17
theorem onEntsP_w {k : List MapEntry → Nat → R} {kp : List MapEntry → R} (h : ∀ es c, s.h.get n = some (.map es c) → W G (k es c)) (hp : ∀ es, s.h.get n = some (.pmap es) → W G (kp es)) : W G (onEntsP s n k kp) := onO_w fun a ha => by
  cases a with
  | map es c => exact h es c ha
  | pmap es => exact hp es ha
  | _ => exact W.fail 17
theorem onLoop_w {k : T Value → Nat → Array Tmp → Code → Code → R} (h : ∀ f N ps asg bd, s.h.get n = some (.loop f N ps asg bd) → W G (k f N ps asg bd)) : W G (onLoop s n k) := onO_w fun a ha => by
  cases a with
  | loop f N ps asg bd => exact h f N ps asg bd ha
  | _ => exact W.fail 19
theorem forceN_w {n : Nat} {k : Nat → R} (h : W G (k n)) : W G (forceN n k) := by cases n <;> exact h
theorem canonL_w : ∀ {l : List UInt8} {k : List UInt8 → R}, W G (k l) → W G (canonL l k)
  | [], k, h => h
  | x :: l, k, h => by
    show W G (forceN (UInt8.toNat x) (fun n => canonL l (fun l => k (UInt8.ofNat n :: l))))
    refine forceN_w (canonL_w ?_)
    rw [UInt8.ofNat_toNat]
    exact h
theorem canonB_w {b : ByteArray} {k : ByteArray → R} (h : W G (k b)) : W G (canonB b k) := canonL_w (by
  have e : (⟨⟨b.data.toList⟩⟩ : ByteArray) = b := rfl
  rw [e]
  exact h)
theorem canonI_w {z : Int} {k : Int → R} (h : W G (k z)) : W G (canonI z k) := by
  cases z with
  | ofNat n => exact forceN_w (k := fun n => k (.ofNat n)) h
  | negSucc n => exact forceN_w (k := fun n => k (.negSucc n)) h
theorem canonV_w {v : Value} {k : Value → R} (h : W G (k v)) : W G (canonV v k) := by
  unfold canonV
  split
  · exact canonI_w h
  · rename_i b
    cases b <;> exact h
  · exact canonB_w h
  · exact h
theorem forceT_w {t : T AO} {k : T AO → R} (h : W G (k t)) : W G (forceT t k) := by cases t <;> exact h
theorem newS_w {a : AO} {k : Nat → St → R} (h : W G (k s.nx (s.new a))) : W G (newS s a k) := by
  obtain ⟨t, nx⟩ := s
  show W G (forceN nx fun nx => forceT (t.set a nx) fun h => forceN (Nat.succ nx) fun m => k nx ⟨h, m⟩)
  exact forceN_w (forceT_w (forceN_w h))
theorem setS_w {a : AO} {k : St → R} (h : W G (k ⟨s.h.set a n, s.nx⟩)) : W G (setS s n a k) := by
  obtain ⟨t, nx⟩ := s
  show W G (forceT (t.set a n) fun h => k ⟨h, nx⟩)
  exact forceT_w h
theorem mkInt_w {i : IntKind} {c : Value → R} (h : W G (c (.int i (.ofNat n)))) : W G (mkInt i n c) := forceN_w h
theorem mkBool_w {b : Bool} {c : Value → R} (h : W G (c (.bool b))) : W G (mkBool b c) := by cases b <;> exact h
theorem onNat_w {i : Int} {k : Nat → R} (h : ∀ n, i = .ofNat n → W G (k n)) : W G (onNat i k) := by
  cases i with
  | ofNat n => exact h n rfl
  | negSucc n => exact W.fail 39
theorem onPlace_w {a : Option Addr} {k : Nat → Nat → Option Nat → R} (h : ∀ n o q, a = some ⟨n, o, q⟩ → W G (k n o q)) : W G (onPlace a k) := onO_w fun a ha => by
  obtain ⟨n, o, q⟩ := a
  exact h n o q ha
theorem idx_w {x : Option Operand} {d : Nat} {k : Nat → R} (h : ∀ n, idxA f x d = some n → W G (k n)) : W G (idx f x d k) := by
  cases x with
  | none => exact h d rfl
  | some x =>
    refine onO_w fun v hv => onInt_w fun i z hz => onNat_w fun n hn => forceN_w (h n ?_)
    subst hz hn
    unfold idxA
    simp only [ev_eq hv]
theorem forceV_w {k : Value → R} (h : W G (k v)) : W G (forceV v k) := onSl_w fun a l c hv => onPlace_w fun n o q ha => forceN_w (forceN_w (forceN_w (by subst hv ha; exact h)))
theorem evs_eq {f : T Value} : ∀ {xs : List Operand} {vs : List Value}, evs f xs = some vs → evAll f xs = some vs
  | [], vs, h => h
  | x :: xs, vs, h => by
    change Option.rec (motive := fun _ => Option (List Value)) none (fun v => Option.rec (motive := fun _ => Option (List Value)) none (fun vs => some (v :: vs)) (evs f xs)) (ev x f) = some vs at h
    rcases h1 : ev x f with _ | v
    · rw [h1] at h
      cases h
    · rw [h1] at h
      rcases h2 : evs f xs with _ | us
      · rw [h2] at h
        cases h
      · rw [h2] at h
        unfold evAll
        rw [ev_eq h1, evs_eq h2]
        exact h
theorem evp_eq {f : T Value} : ∀ {xs : List (Nat × Operand)} {vs : List (Nat × Value)}, evp f xs = some vs → evParts f xs = some vs
  | [], vs, h => h
  | x :: xs, vs, h => by
    change Option.rec (motive := fun _ => Option (List (Nat × Value))) none (fun v => Option.rec (motive := fun _ => Option (List (Nat × Value))) none (fun vs => some ((x.1, v) :: vs)) (evp f xs)) (ev x.2 f) = some vs at h
    rcases h1 : ev x.2 f with _ | v
    · rw [h1] at h
      cases h
    · rw [h1] at h
      rcases h2 : evp f xs with _ | us
      · rw [h2] at h
        cases h
      · rw [h2] at h
        unfold evParts
        rw [ev_eq h1, evp_eq h2]
        exact h
theorem app_eq {α : Type} : ∀ a b : List α, app a b = a ++ b
  | [], _ => rfl
  | x :: a, b => congrArg (x :: ·) (app_eq a b)
theorem allOne_eq : ∀ vs : List Value, allOne vs = vs.all (·.oneCell')
  | [] => rfl
  | v :: vs => by
    change Bool.rec (motive := fun _ => Bool) false (allOne vs) (v.oneCell') = _
    rw [allOne_eq vs]
    simp only [List.all_cons]
    cases v.oneCell' <;> rfl
end
end Go.Proofs.YthdjicolicokcaaGreatDoor.Ev
namespace Go.Proofs.YthdjicolicokcaaGreatDoor.Ev
open Go
def Does (P : Program) (o : Oper) (ev : Operand → Value) (w : World) (X : Value → World → Prop) : Prop :=
  match (execOp ev o).run P w with
  | .ok (.value u) w' => X u w'
  | .ok .skip w' => X undef w'
  | .ok (.enter g args) w' => Calls P g args w' (fun e w'' => match e with
    | .returned u => X u w''
    | _ => False)
  | .ok (.round l g tmps assign body) w' => RoundIn Fence.wide 0 P l g tmps assign body w' (fun e w'' => match e with
    | .returned u => X u w''
    | _ => False)
  | _ => False
def OpOk (P : Program) (o : Oper) (f : T Value) (s : St) (v : Value) (s' : St) : Prop :=
  ∀ (ρ : Nat → Nm) (w : World) (a : Act), SR ρ s w → FR ρ s.nx f a → Does P o a.eval w (fun u w' => ∃ ρ', SStep ρ s w ρ' s' w' ∧ VR ρ' s'.nx v u)
def QI (P : Program) (o : Oper) (f : T Value) (s : St) (k : K) (r : R) : Prop := ∃ v, r = k v s ∧ QOk P o f s v
def VI (P : Program) (o : Oper) (f : T Value) (s : St) (k : K) (r : R) : Prop := ∃ v s', r = k v s' ∧ OpOk P o f s v s'
section
variable {P : Program} {o : Oper} {f : T Value} {s s' : St} {v : Value} {k : K}
theorem ValOk.op (h : ValOk P o f s v s') : OpOk P o f s v s' := fun ρ w a hr hf => by
  obtain ⟨ρ', w', u, h1, h2, h3⟩ := h ρ w a hr hf
  unfold Does
  rw [h1]
  exact ⟨ρ', h2, h3⟩
theorem undef_vr {ρ : Nat → Nm} {nx : Nat} : VR ρ nx undef undef := flat_vr (by rfl)
theorem SkipOk.op (h : SkipOk P o f s s') : OpOk P o f s undef s' := fun ρ w a hr hf => by
  obtain ⟨ρ', w', h1, h2⟩ := h ρ w a hr hf
  unfold Does
  rw [h1]
  exact ⟨ρ', h2, undef_vr⟩
theorem W.mono {G H : R → Prop} {r : R} (h : W G r) (hg : ∀ r, G r → H r) : W H r := fun ho => hg r (h ho)
theorem W.qv {r : R} (h : W (QI P o f s k) r) : W (VI P o f s k) r := h.mono fun _ ⟨v, h1, h2⟩ => ⟨v, s, h1, h2.val.op⟩
theorem q_end (h : QOk P o f s v) : W (QI P o f s k) (k v s) := fun _ => ⟨v, rfl, h⟩
theorem v_end (h : ValOk P o f s v s') : W (VI P o f s k) (k v s') := fun _ => ⟨v, s', rfl, h.op⟩
theorem s_end (h : SkipOk P o f s s') : W (VI P o f s k) (k undef s') := fun _ => ⟨undef, s', rfl, h.op⟩
theorem slowOp_q : W (QI P o f s k) (slowOp P o f s k) := onO_w fun _ hv => canonV_w (q_end (flatOp_ok hv))
theorem xMove_q {x : Operand} (ho : o.op = .move x ∨ o.op = .assign x) : W (QI P o f s k) (xMove x f s k) := onO_w fun _ hv => q_end (move_ok ho (ev_eq hv))
theorem xPick_q {c x y : Operand} (ho : o.op = .pick c x y) : W (QI P o f s k) (xPick c x y f s k) := onO_w fun _ hc => onBool_w fun b hb => by
  subst hb
  refine bool_w (fun hb => ?_) (fun hb => ?_)
  · subst hb
    exact onO_w fun _ hv => q_end (pick_ok ho (ev_eq hc) (ev_eq hv))
  · subst hb
    exact onO_w fun _ hv => q_end (pick_ok ho (ev_eq hc) (ev_eq hv))
theorem xLoad_q {ty : TypeId} {x : Operand} (ho : o.op = .load ty x) : W (QI P o f s k) (xLoad P ty x f s k) :=
  onO_w fun v hv => onPtr_w fun n q hp => onCells_w fun t m e sz fz hn => onO_w fun d hd => by
    subst hp
    refine bool_w (fun ha => ?_) (fun ha => ?_)
    · exact ble_w fun hb => onO_w fun v hg => q_end (load_ok ho hd ha (ev_eq hv) hn hb hg)
    · exact onO_w fun i hi => ble_w fun hb => onO_w fun vs hg => q_end (loadAgg_ok ho hd ha hi (ev_eq hv) hn hb hg)
theorem xNil_q {x : Operand} (ho : o.op = .nilCheck x) : W (QI P o f s k) (xNil x f s k) := onO_w fun v hv => onPtr_w fun n q hp => by
  subst hp
  exact q_end (nilCheck_ok ho (ev_eq hv))
theorem xExtract_q {x : Operand} {i : Nat} (ho : o.op = .extract x i) : W (QI P o f s k) (xExtract x i f s k) := onO_w fun v hv => onTup_w fun a ha => onO_w fun u hu => by
  subst ha
  rw [nth_get] at hu
  exact q_end (extract_ok ho (ev_eq hv) (by simpa using hu))
theorem xIface_q {t : TypeId} {x : Operand} (ho : o.op = .makeInterface t x) : W (QI P o f s k) (xIface P t x f s k) := onO_w fun _ hv => onO_w fun d hd => not_w fun hi => q_end (makeInterface_ok ho hd (by cases d <;> first | rfl | cases hi) (ev_eq hv))
theorem xFunc_q {g : Fn} {xs ys : Array Operand} (ho : o.op = .makeFunc g xs ys) : W (QI P o f s k) (xFunc g xs ys f s k) := onO_w fun _ h1 => onO_w fun _ h2 => not_w fun hy => q_end (makeFunc_ok ho hy (evs_eq h1) (evs_eq h2))
theorem structOf_eq {t : TypeId} {fs : Array Field} (h : structOf P t = some fs) : P.underlying t = some (.struct fs) := by
  unfold structOf at h
  split at h
  · rename_i hu
    rw [hu, Option.some.inj h]
  · cases h
theorem sliceOf_eq {t e : TypeId} (h : sliceOf P t = some e) : P.underlying t = some (.slice e) := by
  unfold sliceOf at h
  split at h
  · rename_i hu
    rw [hu, Option.some.inj h]
  · cases h
theorem arrOf_eq {t : TypeId} {p : Nat × TypeId} (h : arrOf P t = some p) : P.underlying t = some (.array p.1 p.2) := by
  unfold arrOf at h
  split at h
  · rename_i hu
    rw [hu, ← Option.some.inj h]
  · cases h
theorem mapOf_eq {t : TypeId} {p : TypeId × TypeId} (h : mapOf P t = some p) : P.underlying t = some (.map p.1 p.2) := by
  unfold mapOf at h
  split at h
  · rename_i hu
    rw [hu, ← Option.some.inj h]
  · cases h
theorem fieldOf_eq {t : TypeId} {i : Nat} {fd : Field} (h : fieldOf P t i = some fd) : ∃ fs, P.underlying t = some (.struct fs) ∧ fs[i]? = some fd := by
  unfold fieldOf at h
  split at h
  · rename_i fs hs
    exact ⟨fs, structOf_eq hs, h⟩
  · cases h
theorem xField_q {ty : TypeId} {x : Operand} {i : Nat} (ho : o.op = .fieldAddr ty x i) : W (QI P o f s k) (xField P ty x i f s k) := onO_w fun v hv => onPtr_w fun n q hp => onO_w fun fd hfd => onO_w fun inf hi => ne_w fun hz => forceN_w (by
  subst hp
  obtain ⟨fs, h1, h2⟩ := fieldOf_eq hfd
  exact q_end (fieldAddr_ok ho h1 h2 hi hz (ev_eq hv)))
theorem spotN_zero {q : Option Nat} (h : spotN q ≤ 0) : q = none ∨ q = some 0 := by
  cases q with
  | none => exact .inl rfl
  | some q => exact .inr (congrArg some (Nat.le_zero.1 h))
theorem xIndexAddr_q {ty : TypeId} {x y : Operand} (ho : o.op = .indexAddr ty x y) : W (QI P o f s k) (xIndexAddr P ty x y f s k) :=
  onO_w fun v hv => onO_w fun iv hiv => onInt_w fun kk z hz => onNat_w fun i hi => onO_w fun d hd => by
    subst hz hi
    have h0 : (0 : Int) ≤ Int.ofNat i := Int.natCast_nonneg i
    have key : ∀ n q (sz : Nat) (V : Nat → Value), (V = fun m => .pointer (some ⟨n, m, none⟩)) → QOk P o f s (.pointer (some ⟨n, q + (Int.ofNat i).toNat * sz, none⟩)) → W (QI P o f s k) (forceN (Nat.add q (Nat.mul i sz)) fun m => k (V m) s) := fun n q sz V hV h => by
      subst hV
      exact forceN_w (q_end h)
    split
    · refine onO_w fun inf hi => onSl_w fun a l c ha => ble_w fun hl => onPlace_w fun n q spot hs => ble_w fun hq => ?_
      subst ha hs
      have hl' : Int.ofNat i < l := Int.ofNat_lt.2 hl
      rcases spotN_zero hq with rfl | rfl
      · exact key n q inf.size _ rfl (indexSl_ok ho hd hi (ev_eq hv) (ev_eq hiv) h0 hl')
      · exact key n q inf.size _ rfl (indexFx_ok ho hd hi (ev_eq hv) (ev_eq hiv) h0 hl')
    · refine onO_w fun inf hi => ble_w fun hl => onPtr_w fun n q hp => ?_
      subst hp
      exact key n q inf.size _ rfl (indexArr_ok ho hd hi (ev_eq hv) (ev_eq hiv) h0 (Int.ofNat_lt.2 hl))
    · exact W.fail 43
theorem takeL_eq {α : Type} : ∀ (l : List α) (n : Nat), takeL l n = l.take n
  | [], n => by simp [takeL]
  | x :: l, 0 => rfl
  | x :: l, n + 1 => by
    show x :: takeL l n = _
    rw [takeL_eq l n]
    rfl
theorem dropL_eq {α : Type} : ∀ (l : List α) (n : Nat), dropL l n = l.drop n
  | [], n => by simp [dropL]
  | x :: l, 0 => rfl
  | x :: l, n + 1 => by
    show dropL l n = _
    rw [dropL_eq l n]
    rfl
theorem cut_str (b : ByteArray) (l h : Nat) : (⟨⟨takeL (dropL b.data.toList l) (h - l)⟩⟩ : ByteArray) = b.extract l h := by
  apply ByteArray.ext
  rw [ByteArray.data_extract]
  apply Array.ext'
  rw [takeL_eq, dropL_eq, Array.toList_extract]
theorem sliceStr_ok {t : TypeId} {x : Operand} {lo hi : Option Operand} {b : ByteArray} {l h : Nat} (ho : o.op = .slice t x lo hi none) (hu : P.underlying t = some .string) (hx : evO f x = some (.string b)) (hl : idxA f lo 0 = some l) (hh : idxA f hi b.size = some h) (h1 : l ≤ h) (h2 : h ≤ b.size) : QOk P o f s (.string (b.extract l h)) := by
  refine qOk_of (sem := fun ev => Instr.sliceAt t (ev x) (lo.map ev) (hi.map ev) none) (fun ev => slice_run ho ev) (fun ρ w a hr hf => ?_)
  have hp := evO_sound hf hx
  obtain ⟨u, hu2⟩ : ∃ u, a.eval x = u := ⟨_, rfl⟩
  rw [hu2] at hp
  cases hp
  have hb := bounds_run P hf (mx := none) (b := false) (len := b.size) (cap := b.size) (m := b.size) hl hh rfl h1 h2 (Nat.le_refl _) (fun h => by cases h) w
  refine ⟨.string (b.extract l h), ?_, .string _⟩
  have hb2 : (Instr.sliceBounds false b.size b.size (lo.map a.eval) (hi.map a.eval) none).run P w = .ok (l, h, b.size) w := hb
  simp only [hu2, Instr.sliceAt, Instr.slice, Sem.run_bind, run_und hu, Result.andThen_ok, Option.isSome_none, Bool.false_eq_true, if_false, hb2, Sem.run_pure]
theorem xSlice_q {ty : TypeId} {x : Operand} {lo hi mx : Option Operand} (ho : o.op = .slice ty x lo hi mx) : W (QI P o f s k) (xSlice P o ty x lo hi mx f s k) := onO_w fun v hv => by
  cases v with
  | string b =>
    refine onO_w fun d hd => ?_
    split
    · refine idx_w fun l hl => idx_w fun h hh => ble_w fun h1 => ble_w fun h2 => canonL_w ?_
      show W _ (k (.string ⟨⟨takeL (dropL b.data.toList l) (h - l)⟩⟩) s)
      rw [cut_str]
      exact q_end (sliceStr_ok ho hd (ev_eq hv) hl hh h1 h2)
    · exact W.fail 45
  | pointer a =>
    refine onPtr_w fun n q hp => onO_w fun ne hne => onO_w fun inf hinf => idx_w fun l hl => idx_w fun h hh => idx_w fun m hm => ble_w fun h1 => ble_w fun h2 => ble_w fun h3 => onB_w fun h4 => forceV_w (q_end ?_)
    rw [hp] at hv
    refine sliceArr_ok ho (arrOf_eq hne) hinf (ev_eq hv) hl hh hm h1 h2 h3 (fun hs => ?_)
    rw [hs] at h4
    exact h4
  | slice a len cp =>
    refine onO_w fun e he => onO_w fun inf hinf => onPlace_w fun n q spot hs => idx_w fun l hl => idx_w fun h hh => ble_w fun h1 => opt_w (fun hm => ?_) (fun y hm => ?_)
    · subst hs hm
      refine ble_w fun h2 => opt_w (fun hq => ?_) (fun j hq => beq_w fun hj => ?_)
      · subst hq
        exact forceV_w (q_end (sliceSl_ok ho (sliceOf_eq he) hinf (ev_eq hv) hl hh h1 h2))
      · subst hq hj
        exact forceV_w (q_end (sliceFx_ok ho (sliceOf_eq he) hinf (ev_eq hv) hl hh h1 h2))
    · subst hs hm
      refine onB_w fun h4 => idx_w fun m hm => ble_w fun h2 => ble_w fun h3 => beq_w fun hq => forceV_w (q_end ?_)
      rcases spotN_zero (Nat.le_of_eq hq) with rfl | rfl
      · exact sliceMax_ok ho (sliceOf_eq he) hinf (.inl (ev_eq hv)) hl hh hm h1 h2 h3 h4
      · exact sliceMax_ok ho (sliceOf_eq he) hinf (.inr (ev_eq hv)) hl hh hm h1 h2 h3 h4
  | _ => exact W.fail 45
theorem spot_w {q : Option Nat} (h : Nat.ble (spotN q) 0 = true) : q = none ∨ q = some 0 := spotN_zero (Nat.le_of_ble_eq_true h)
theorem xSliceData_q {c : Call} {x : Operand} (ho : o.op = .call c) (hc : c.callee = .builtin .unsafeSliceData) (ha : c.args = #[x]) : W (QI P o f s k) (xSliceData P o x f s k) := onO_w fun v hv => by
  split
  · rename_i n q l c'
    cases c' with
    | zero => exact W.fail 189
    | succ c' => exact q_end (sliceData_ok ho hc ha (ev_eq hv))
  · exact slowOp_q
theorem xFieldV_q {ty : TypeId} {x : Operand} {i : Nat} (ho : o.op = .field ty x i) : W (QI P o f s k) (xFieldV P ty x i f s k) := onO_w fun fd hfd => onO_w fun v hv => onAgg_w fun cs hc => onO_w fun u hu => by
  subst hc
  obtain ⟨fs, h1, h2⟩ := fieldOf_eq hfd
  exact q_end (field_ok ho h1 h2 (ev_eq hv) hu)
theorem xIndexV_q {ty : TypeId} {x y : Operand} (ho : o.op = .index ty x y) : W (QI P o f s k) (xIndexV P o ty x y f s k) := opt_w (fun _ => slowOp_q) fun p hp => onO_w fun inf hi => onO_w fun iv hiv => onInt_w fun kk z hz => onNat_w fun i hn => ble_w fun hl => onO_w fun v hv => onAgg_w fun cs hc => onO_w fun u hu => by
  subst hc hz hn
  exact q_end (index_ok ho (arrOf_eq hp) hi (ev_eq hv) (ev_eq hiv) (Int.natCast_nonneg i) (Int.ofNat_lt.2 hl) hu)
theorem xBuild_q {ty : TypeId} {ps : Array (Nat × Operand)} (ho : o.op = .build ty ps) : W (QI P o f s k) (xBuild P ty ps f s k) := onO_w fun i hi => onO_w fun z hz => onB_w fun hfz => onO_w fun vs hvs => onO_w fun d hd => by
  split
  · refine onO_w fun pl hpl => onO_w fun cells hc => q_end ?_
    rename_i fs
    unfold placesOf structOf at hpl
    rw [hd] at hpl
    exact build_ok ho hd hi hz hfz hpl (evp_eq hvs) hc
  · exact onO_w fun ie hie => onO_w fun cells hc => q_end (buildArr_ok ho hd hi hz hfz hie (evp_eq hvs) hc)
  · exact W.fail 63
theorem nodup_inj : ∀ (es : List MapEntry), (es.map (·.key)).Nodup → ∀ a b, a ∈ es → b ∈ es → a.key = b.key → a = b
  | [], _, a, b, ha, _, _ => by cases ha
  | e :: es, h, a, b, ha, hb, he => by
    rw [List.map_cons, List.nodup_cons] at h
    rcases List.mem_cons.1 ha with ea | ha2 <;> rcases List.mem_cons.1 hb with eb | hb2
    · exact ea.trans eb.symm
    · exact absurd (show e.key ∈ es.map (·.key) from List.mem_map.2 ⟨b, hb2, by rw [← he, ea]⟩) h.1
    · exact absurd (show e.key ∈ es.map (·.key) from List.mem_map.2 ⟨a, ha2, by rw [he, eb]⟩) h.1
    · exact nodup_inj es h.2 a b ha2 hb2 he
theorem int_eq {a b : Int} (h : intEq a b = true) : a = b := by
  unfold intEq at h
  split at h
  · rw [Nat.eq_of_beq_eq_true h]
  · rw [Nat.eq_of_beq_eq_true h]
  · cases h
theorem int_refl (a : Int) : intEq a a = true := by
  cases a
  · exact Nat.beq_refl _
  · exact Nat.beq_refl _
theorem kindRefl (k : IntKind) : sameKind k k = true := by cases k <;> rfl
theorem kindEq {a b : IntKind} (h : sameKind a b = true) : a = b := by
  cases a <;> cases b <;> first | rfl | cases h
theorem bandT {a b : Bool} (h : band a b = true) : a = true ∧ b = true := by
  cases a
  · cases h
  · exact ⟨rfl, h⟩
theorem keyIs_is {u : Value} {kk : IntKind} {z : Int} : keyIs u kk z = true ↔ u = .int kk z := by
  constructor
  · intro h
    unfold keyIs at h
    split at h
    · obtain ⟨h1, h2⟩ := bandT h
      rw [kindEq h1, int_eq h2]
    · cases h
  · intro h
    subst h
    show band (sameKind kk kk) (intEq z z) = true
    rw [kindRefl, int_refl]
    rfl
theorem allK_is {kk : IntKind} : ∀ {es : List MapEntry}, allK kk es = true → ∀ e ∈ es, ∃ z, e.key = .int kk z
  | [], _, e, he => by cases he
  | x :: es, h, e, he => by
    obtain ⟨h1, h2⟩ := bandT (show band (keyOf x.key kk) (allK kk es) = true from h)
    rcases List.mem_cons.1 he with rfl | he
    · unfold keyOf at h1
      split at h1
      · rename_i hk
        rw [hk, kindEq h1]
        exact ⟨_, rfl⟩
      · cases h1
    · exact allK_is h2 e he
theorem findP_is {kk : IntKind} {z : Int} : ∀ (es : List MapEntry), (findP kk z es = none ∧ ∀ e ∈ es, e.key ≠ .int kk z) ∨ ∃ e ∈ es, e.key = .int kk z ∧ findP kk z es = some (0, e.val)
  | [] => .inl ⟨rfl, fun e he => by cases he⟩
  | x :: es => by
    rcases hb : keyIs x.key kk z with _ | _
    · have e1 : findP kk z (x :: es) = findP kk z es := by
        show Bool.rec (motive := fun _ => Option (Nat × Value)) (findP kk z es) (some (0, x.val)) (keyIs x.key kk z) = _
        rw [hb]
      have hx : x.key ≠ .int kk z := fun h => by
        rw [keyIs_is.2 h] at hb
        cases hb
      rw [e1]
      rcases findP_is es with ⟨h1, h2⟩ | ⟨e, h1, h2, h3⟩
      · refine .inl ⟨h1, fun e he => ?_⟩
        rcases List.mem_cons.1 he with rfl | he
        · exact hx
        · exact h2 e he
      · exact .inr ⟨e, List.mem_cons_of_mem _ h1, h2, h3⟩
    · refine .inr ⟨x, List.mem_cons_self, keyIs_is.1 hb, ?_⟩
      show Bool.rec (motive := fun _ => Option (Nat × Value)) (findP kk z es) (some (0, x.val)) (keyIs x.key kk z) = _
      rw [hb]
theorem findNow_int {j kk : IntKind} {z : Int} : ∀ (l : List MapEntry) (i : Nat), (∀ e ∈ l, ∃ y, e.key = .int kk y) → ∃ r, Instr.findNow (.int j) (.int kk z) l i = some r ∧ ((r = none ∧ ∀ e ∈ l, e.key ≠ .int kk z) ∨ ∃ q e, r = some (q, e.val) ∧ e ∈ l ∧ e.key = .int kk z)
  | [], i, _ => ⟨none, rfl, .inl ⟨rfl, fun e he => by cases he⟩⟩
  | x :: l, i, h => by
    obtain ⟨y, hy⟩ := h x List.mem_cons_self
    have hs : Instr.sameNow (.int j) (.int kk z) x.key = some (z == y) := by
      rw [hy]
      show (if kk = kk then some (z == y) else none) = _
      rw [if_pos rfl]
    by_cases hzy : z = y
    · subst hzy
      refine ⟨some (i, x.val), ?_, .inr ⟨i, x, rfl, List.mem_cons_self, hy⟩⟩
      unfold Instr.findNow
      rw [hs, beq_self_eq_true]
    · obtain ⟨r, h1, h2⟩ := findNow_int l (i + 1) (fun e he => h e (List.mem_cons_of_mem _ he))
      have hb : (z == y) = false := beq_eq_false_iff_ne.2 hzy
      refine ⟨r, ?_, ?_⟩
      · unfold Instr.findNow
        rw [hs, hb]
        exact h1
      · rcases h2 with ⟨h3, h4⟩ | ⟨q, e, h3, h4, h5⟩
        · refine .inl ⟨h3, fun e he => ?_⟩
          rcases List.mem_cons.1 he with rfl | he
          · rw [hy]
            exact fun e => hzy (by injection e with _ e; exact e.symm)
          · exact h4 e he
        · exact .inr ⟨q, e, h3, List.mem_cons_of_mem _ h4, h5⟩
theorem checkIntN {kt : TypeId} {j kk : IntKind} {z : Int} (h : P.underlying kt = some (.int j)) (b : Bool) (w : World) (n : Nat) : (Instr.checkKey b (n + 1) kt (.int kk z)).run P w = .ok () w := by
  simp only [Instr.checkKey, Sem.run_bind, run_und h, Result.andThen_ok]
  rfl
theorem checkInt {kt : TypeId} {j kk : IntKind} {z : Int} (h : P.underlying kt = some (.int j)) (b : Bool) (w : World) : (Instr.checkKey b 10000 kt (.int kk z)).run P w = .ok () w := checkIntN h b w 9999
theorem findInt {kt : TypeId} {j kk : IntKind} {z : Int} {l : List MapEntry} {r : Option (Nat × Value)} (h : P.underlying kt = some (.int j)) (hr : Instr.findNow (.int j) (.int kk z) l 0 = some r) (w : World) : (Instr.findKey kt (.int kk z) l).run P w = .ok r w := by
  simp only [Instr.findKey, Sem.run_bind, run_und h, Result.andThen_ok, hr, Sem.run_pure]
theorem lookupP_ok {xt kt e : TypeId} {j kk : IntKind} {zz : Int} {ie : TypeInfo} {z : Value} {x ix : Operand} {ok : Bool} {n : Nat} {es : List MapEntry} (ho : o.op = .lookup xt x ix ok) (hu : P.underlying xt = some (.map kt e)) (hkd : P.underlying kt = some (.int j)) (hi : P.info? e = some ie) (hz : ie.zero = some z) (hfz : flat z = true) (hx : evO f x = some (.map (some n))) (hn : s.h.get n = some (.pmap es)) (hix : evO f ix = some (.int kk zz)) (hall : allK kk es = true) : QOk P o f s (lookR ok z (findP kk zz es)) := by
  refine qOk_of (sem := fun ev => Instr.lookup xt (ev x) (ev ix) ok) (fun ev => by unfold execOp; rw [ho]) (fun ρ w a hr hf => ?_)
  have hkv := flat_eq (v := .int kk zz) (by rfl) (evO_sound hf hix)
  have hp := evO_sound hf hx
  obtain ⟨u, hu2⟩ : ∃ u, a.eval x = u := ⟨_, rfl⟩
  rw [hu2] at hp
  cases hp
  obtain ⟨_, es', c, h1, kk0, h2, _, h4, h5⟩ := hr.obj n _ hn
  have hint : ∀ u ∈ es'.toList, ∃ y, u.key = .int kk y := fun u hu => by
    obtain ⟨e, g1, g2, _⟩ := h4 u hu
    obtain ⟨y, g3⟩ := allK_is hall e g1
    exact ⟨y, by rw [← g2]; exact g3⟩
  obtain ⟨r', h6, h7⟩ := findNow_int (j := j) (z := zz) es'.toList 0 hint
  refine ⟨lookR ok z r', ?_, ?_⟩
  · simp only [hu2, hkv]
    exact look_run hu h1 (checkInt hkd _ w) (findInt hkd h6 w) hi hz
  · rcases h7 with ⟨rfl, h8⟩ | ⟨q, u, rfl, h8, h9⟩
    · rcases findP_is (kk := kk) (z := zz) es with ⟨g1, _⟩ | ⟨e, g1, g2, _⟩
      · rw [g1]
        cases ok
        · exact flat_vr hfz
        · exact pair_vr (flat_vr hfz) (.bool _)
      · obtain ⟨u, g3, g4⟩ := h5 e g1
        exact absurd (g4.trans g2) (h8 u g3)
    · obtain ⟨e, g1, g2, g3⟩ := h4 u h8
      rcases findP_is (kk := kk) (z := zz) es with ⟨_, g5⟩ | ⟨e2, g5, g6, g7⟩
      · exact absurd (g2.trans h9) (g5 e g1)
      · obtain rfl := nodup_inj es h2 e e2 g1 g5 ((g2.trans h9).trans g6.symm)
        rw [g7]
        cases ok
        · exact g3
        · exact pair_vr g3 (.bool _)
theorem xLookup_q {ty : TypeId} {x ix : Operand} {ok : Bool} (ho : o.op = .lookup ty x ix ok) : W (QI P o f s k) (xLookup P ty x ix ok f s k) :=
  onO_w fun ke hke => onO_w fun ie hi => onO_w fun z hz => onB_w fun hfz => onO_w fun v hv => onO_w fun kv hkv => onB_w fun hfl => onMap_w fun m hm => by
    subst hm
    refine opt_w (fun hm => ?_) (fun n hm => ?_)
    · subst hm
      refine onO_w fun _ hck => onO_w fun r hfk => opt_w (fun hr => ?_) (fun _ _ => W.fail 74)
      subst hr
      exact q_end (lookupNil_ok ho (mapOf_eq hke) hi hz hfz (ev_eq hv) (ev_eq hkv) hfl hck hfk)
    · subst hm
      refine onEntsP_w (fun es c hn => onO_w fun kd hkd => onO_w fun _ hck => onO_w fun r hfk => q_end (lookup_ok ho (mapOf_eq hke) hkd hi hz hfz (ev_eq hv) hn (ev_eq hkv) hfl hck hfk)) (fun es hn => onO_w fun kd hkd => ?_)
      split
      · exact onB_w fun hall => q_end (lookupP_ok ho (mapOf_eq hke) hkd hi hz hfz (ev_eq hv) hn (ev_eq hkv) hall)
      · exact W.fail 75
theorem xEntry_q {it : Operand} (ho : o.op = .entry it) : W (QI P o f s k) (xEntry it f s k) := onO_w fun v hv => onPtr_w fun n q hq => beq_w fun h0 => onO_w fun a ha => by
  subst hq h0
  split
  · refine onEnts_w fun es clock hh => ?_
    split
    · refine beq_w fun hb => beq_w fun hc => ?_
      subst hb hc
      exact q_end (entry_ok ho (ev_eq hv) ha hh)
    · exact W.fail 137
  · exact W.fail 137
theorem xAssert_q {x : Operand} {xt t : TypeId} {ok : Bool} (ho : o.op = .typeAssert x xt t ok) : W (QI P o f s k) (xAssert P x t ok f s k) := onO_w fun v hv => onIface_w fun t' u hu => beq_w fun he => onO_w fun d hd => not_w fun hi => by
  subst hu he
  have h := assert_ok ho hd hi (ev_eq hv) (s := s)
  cases ok
  · exact q_end h
  · exact q_end h
theorem xUn_q {op : UnOp} {t : TypeId} {x : Operand} (ho : o.op = .unOp op t x) : W (QI P o f s k) (xUn P o op x f s k) := onO_w fun v hv => by
  split
  · rename_i b
    refine mkBool_w (q_end (qOk_of (sem := fun ev => Op.unary .not (ev x)) (fun ev => by unfold execOp; rw [ho]) fun ρ w a hr hf => ?_))
    have h := evO_sound hf (ev_eq hv)
    obtain ⟨u, hu⟩ : ∃ u, a.eval x = u := ⟨_, rfl⟩
    rw [hu] at h
    cases h
    refine ⟨.bool (!b), by rw [hu]; rfl, ?_⟩
    cases b
    · exact .bool true
    · exact .bool false
  · exact slowOp_q
theorem xLen_q {c : Call} {t : TypeId} {x : Operand} (ho : o.op = .call c) (hc : c.callee = .builtin .len) (ha : c.args = #[x]) (ht : c.argTypes[0]? = some t) : W (QI P o f s k) (xLen P o t x f s k) := onO_w fun d hd => onO_w fun v hv => by
  split
  · exact mkInt_w (q_end (lenSl_ok ho hc ha ht hd (ev_eq hv)))
  · exact onEnts_w fun es cl hn => mkInt_w (q_end (lenMap_ok ho hc ha ht hd (ev_eq hv) hn))
  · exact slowOp_q
theorem max_in {i : IntKind} {n : Nat} (h : n ≤ maxOf i) : i.wrap n = n := by
  cases i
  · exact IntWalk.i8_in _ ⟨by omega, by have : n ≤ 127 := h; omega⟩
  · exact IntWalk.i16_in _ ⟨by omega, by have : n ≤ 32767 := h; omega⟩
  · exact IntWalk.i32_in _ ⟨by omega, by have : n ≤ 2147483647 := h; omega⟩
  · exact IntWalk.i64_in _ ⟨by omega, by have : n ≤ 9223372036854775807 := h; omega⟩
  · exact IntWalk.u8_in _ ⟨by omega, by have : n ≤ 255 := h; omega⟩
  · exact IntWalk.u16_in _ ⟨by omega, by have : n ≤ 65535 := h; omega⟩
  · exact IntWalk.u32_in _ ⟨by omega, by have : n ≤ 4294967295 := h; omega⟩
  · exact IntWalk.u64_in _ ⟨by omega, by have : n ≤ 18446744073709551615 := h; omega⟩
theorem sameKind_eq {a b : IntKind} (h : sameKind a b = true) : a = b := by
  cases a <;> cases b <;> first | rfl | cases h
theorem bin_int {op : BinOp} {t q : TypeId} {x y : Operand} {i j : IntKind} {a b : Nat} {z : Value} (ho : o.op = .binOp op t x y q) (hx : evO f x = some (.int i (.ofNat a))) (hy : evO f y = some (.int j (.ofNat b)))
    (hz : flat z = true) (h : ∀ w, (binOp op t (.int i (.ofNat a)) (.int j (.ofNat b))).run P w = .ok z w) : QOk P o f s z := by
  refine qOk_of (sem := fun ev => do eqGuard op t x y (ev x) (ev y); binOp op t (ev x) (ev y)) (fun ev => by unfold execOp; rw [ho]) fun ρ w c hr hf => ?_
  have h1 := evO_sound hf hx
  have h2 := evO_sound hf hy
  obtain ⟨u1, hu1⟩ : ∃ u, c.eval x = u := ⟨_, rfl⟩
  obtain ⟨u2, hu2⟩ : ∃ u, c.eval y = u := ⟨_, rfl⟩
  rw [hu1] at h1
  rw [hu2] at h2
  cases h1
  cases h2
  refine ⟨z, ?_, flat_vr hz⟩
  have hg : ∀ w, (eqGuard op t x y (.int i (.ofNat a)) (.int j (.ofNat b))).run P w = .ok () w := fun w => by
    unfold eqGuard
    cases op <;> rfl
  simp only [hu1, hu2, Sem.run_bind, hg, Result.andThen_ok, h]
theorem wrap_uns {i : IntKind} (h : uns i = true) (n : Nat) : i.wrap (n : Int) = ((n % Nat.succ (maxOf i) : Nat) : Int) := by
  cases i <;> first | (cases h; done) | (simp [IntKind.wrap, IntKind.bits, IntKind.signed, maxOf])
theorem wrapN_w {G : Ev.R → Prop} {i : IntKind} {n : Nat} {slow : Ev.R} {c : Value → Ev.R} (hs : W G slow) (h : ∀ z : Nat, i.wrap (n : Int) = (z : Int) → W G (c (.int i (.ofNat z)))) : W G (wrapN i n slow c) :=
  bool_w (fun _ => bool_w (fun _ => hs) (fun hu => mkInt_w (h _ (wrap_uns hu n)))) (fun hle => mkInt_w (h n (max_in (Nat.le_of_ble_eq_true hle))))
theorem bv_nat {i : IntKind} {a : Nat} (h : a ≤ maxOf i) : (BitVec.ofInt i.bits (Int.ofNat a)).toNat = a := by
  have hlt : a < 2 ^ i.bits := by
    cases i
    · have : a ≤ 127 := h
      show a < 2 ^ 8
      omega
    · have : a ≤ 32767 := h
      show a < 2 ^ 16
      omega
    · have : a ≤ 2147483647 := h
      show a < 2 ^ 32
      omega
    · have : a ≤ 9223372036854775807 := h
      show a < 2 ^ 64
      omega
    · have : a ≤ 255 := h
      show a < 2 ^ 8
      omega
    · have : a ≤ 65535 := h
      show a < 2 ^ 16
      omega
    · have : a ≤ 4294967295 := h
      show a < 2 ^ 32
      omega
    · have : a ≤ 18446744073709551615 := h
      show a < 2 ^ 64
      omega
  rw [BitVec.toNat_ofInt]
  have e : Int.ofNat a % ((2 ^ i.bits : Nat) : Int) = ((a % 2 ^ i.bits : Nat) : Int) := rfl
  rw [e, Int.toNat_natCast]
  exact Nat.mod_eq_of_lt hlt
theorem bits_of (i : IntKind) : bitsOf i = i.bits := by cases i <;> rfl
theorem xConv_q {a b : TypeId} {x : Operand} (ho : o.op = .convert a b x) : W (QI P o f s k) (xConv P o a b x f s k) := onO_w fun v hv => by
  split
  · refine onO_w fun da hda => onO_w fun db hdb => onCells_w fun t m e sz fz hn => ?_
    split
    · exact onO_w fun j hj => ne_w fun hz => ble_w fun hk => q_end (toUnsafe_ok ho hda hdb hj hz (ev_eq hv) hn hk)
    · refine onO_w fun j hj => beq_w fun hz => onB_w fun hl => ?_
      subst hz
      exact q_end (fromUnsafe_ok ho hda hdb hj (ev_eq hv) hn hl)
    · exact W.fail 184
  · refine onO_w fun da hda => onO_w fun db hdb => ?_
    split
    · refine onO_w fun dt hdt => ?_
      split
      · exact onB_w fun hsp => onCells_w fun t m e sz fz hn => ble_w fun hk => onO_w fun vs hvs => onO_w fun bs hbs => canonB_w (q_end (bytesStr_ok ho hda hdb hdt (ev_eq hv) (spot_w hsp) hn hk hvs hbs))
      · exact W.fail 186
    · exact W.fail 186
  · refine onO_w fun da hda => onO_w fun db hdb => ?_
    split
    · rename_i j i
      refine wrapN_w slowOp_q fun z hz => q_end ?_
      refine qOk_of (sem := fun ev => convert a b (ev x)) (conv_run ho) (fun ρ w c hr hf => ?_)
      have hp := evO_sound hf (ev_eq hv)
      obtain ⟨u, hu2⟩ : ∃ u, c.eval x = u := ⟨_, rfl⟩
      rw [hu2] at hp
      cases hp
      refine ⟨.int i z, ?_, .int _ _⟩
      rw [hu2]
      simp only [convert, Sem.run_bind, run_und hda, run_und hdb, Result.andThen_ok, Conv.intToInt, Sem.run_pure]
      exact congrArg (fun z => Result.ok (Value.int i z) w) hz
    · exact slowOp_q
  · exact slowOp_q
theorem natOp_q {op : BinOp} {t q : TypeId} {x y : Operand} {i : IntKind} {a b : Nat} {slow : R} (ho : o.op = .binOp op t x y q) (hx : evO f x = some (.int i (.ofNat a))) (hy : evO f y = some (.int i (.ofNat b))) (hs : W (QI P o f s k) slow) : W (QI P o f s k) (natOp op i a b slow fun v => k v s) := by
  have key : ∀ z : Value, flat z = true → (∀ w, (binOp op t (.int i (.ofNat a)) (.int i (.ofNat b))).run P w = .ok z w) → W (QI P o f s k) (k z s) := fun z h1 h2 => q_end (bin_int ho hx hy h1 h2)
  have cmp : ∀ c : Bool, (∀ w, (binOp op t (.int i (.ofNat a)) (.int i (.ofNat b))).run P w = .ok (.bool c) w) → W (QI P o f s k) (mkBool c fun v => k v s) := fun c h => mkBool_w (key _ (by cases c <;> rfl) h)
  have ar : ∀ n : Nat, (∀ w, (binOp op t (.int i (.ofNat a)) (.int i (.ofNat b))).run P w = .ok (.int i n) w) → W (QI P o f s k) (mkInt i n fun v => k v s) := fun n h => mkInt_w (key _ (by rfl) h)
  have dec : ∀ (p : Prop) [Decidable p] (c : Bool), (p ↔ c = true) → decide p = c := fun p _ c h => by
    cases c
    · exact decide_eq_false (fun hp => Bool.noConfusion (h.1 hp))
    · exact decide_eq_true (h.2 rfl)
  have wr : ∀ n : Nat, (∀ w, (binOp op t (.int i (.ofNat a)) (.int i (.ofNat b))).run P w = .ok (.int i (i.wrap n)) w) → W (QI P o f s k) (wrapN i n slow fun v => k v s) := fun n h => wrapN_w hs fun z hz => key _ (by rfl) fun w => by rw [h w, hz]; rfl
  have bt : ∀ g : Nat → Nat → Nat, (a ≤ maxOf i → b ≤ maxOf i → ∀ w, (binOp op t (.int i (.ofNat a)) (.int i (.ofNat b))).run P w = .ok (.int i (i.wrap (g a b : Nat))) w) → W (QI P o f s k) (bitsN g i a b slow fun v => k v s) := fun g h => bool_w (fun _ => hs) fun h1 => bool_w (fun _ => hs) fun h2 => wr _ (h (Nat.le_of_ble_eq_true h1) (Nat.le_of_ble_eq_true h2))
  unfold natOp natF
  split
  · refine wr _ fun w => ?_
    simp only [binOp, ne_eq, not_true_eq_false, if_false, Op.intArith, Sem.run_pure]
    rfl
  · refine bool_w (fun _ => hs) fun h1 => bool_w (fun _ => hs) fun h => ar _ fun w => ?_
    have hm := max_in (Nat.le_of_ble_eq_true h)
    have h1 := Nat.le_of_ble_eq_true h1
    simp only [binOp, ne_eq, not_true_eq_false, if_false, Op.intArith, Sem.run_pure]
    have : (Int.ofNat a - Int.ofNat b) = ((Nat.sub a b : Nat) : Int) := (Int.ofNat_sub h1).symm
    rw [this, hm]
  · refine wr _ fun w => ?_
    simp only [binOp, ne_eq, not_true_eq_false, if_false, Op.intArith, Sem.run_pure]
    rfl
  · refine bool_w (fun _ => hs) fun h1 => wr _ fun w => ?_
    have h1 := Nat.le_of_ble_eq_true h1
    have h0 : Int.ofNat b ≠ 0 := fun e => by
      have : (b : Int) = 0 := e
      omega
    simp only [binOp, ne_eq, not_true_eq_false, if_false, Op.intDiv, if_neg h0, Sem.run_pure]
    rfl
  · refine bool_w (fun _ => hs) fun h1 => ar _ fun w => ?_
    have h1 := Nat.le_of_ble_eq_true h1
    have h0 : Int.ofNat b ≠ 0 := fun e => by
      have : (b : Int) = 0 := e
      omega
    simp only [binOp, ne_eq, not_true_eq_false, if_false, Op.intDiv, if_neg h0, Sem.run_pure]
    rfl
  · refine bt _ fun h1 h2 w => ?_
    simp only [binOp, ne_eq, not_true_eq_false, if_false, Op.intBits, Sem.run_pure, BitVec.toNat_and, bv_nat h1, bv_nat h2]
    rfl
  · refine bt _ fun h1 h2 w => ?_
    simp only [binOp, ne_eq, not_true_eq_false, if_false, Op.intBits, Sem.run_pure, BitVec.toNat_or, bv_nat h1, bv_nat h2]
    rfl
  · refine bt _ fun h1 h2 w => ?_
    simp only [binOp, ne_eq, not_true_eq_false, if_false, Op.intBits, Sem.run_pure, BitVec.toNat_xor, bv_nat h1, bv_nat h2]
    rfl
  · refine cmp _ fun w => ?_
    simp only [binOp, ne_eq, not_true_eq_false, if_false, Op.intCmp, Sem.run_pure]
    rw [dec (Int.ofNat a < Int.ofNat b) (Nat.ble (Nat.succ a) b) ⟨fun h => Nat.ble_eq_true_of_le (Int.ofNat_lt.1 h), fun h => Int.ofNat_lt.2 (Nat.le_of_ble_eq_true h)⟩]
  · refine cmp _ fun w => ?_
    simp only [binOp, ne_eq, not_true_eq_false, if_false, Op.intCmp, Sem.run_pure]
    rw [dec (Int.ofNat a ≤ Int.ofNat b) (Nat.ble a b) ⟨fun h => Nat.ble_eq_true_of_le (Int.ofNat_le.1 h), fun h => Int.ofNat_le.2 (Nat.le_of_ble_eq_true h)⟩]
  · refine cmp _ fun w => ?_
    simp only [binOp, ne_eq, not_true_eq_false, if_false, Op.intCmp, Sem.run_pure]
    rw [dec (Int.ofNat a > Int.ofNat b) (Nat.ble (Nat.succ b) a) ⟨fun h => Nat.ble_eq_true_of_le (Int.ofNat_lt.1 h), fun h => Int.ofNat_lt.2 (Nat.le_of_ble_eq_true h)⟩]
  · refine cmp _ fun w => ?_
    simp only [binOp, ne_eq, not_true_eq_false, if_false, Op.intCmp, Sem.run_pure]
    rw [dec (Int.ofNat a ≥ Int.ofNat b) (Nat.ble b a) ⟨fun h => Nat.ble_eq_true_of_le (Int.ofNat_le.1 h), fun h => Int.ofNat_le.2 (Nat.le_of_ble_eq_true h)⟩]
  · refine cmp _ fun w => ?_
    simp only [binOp, ne_eq, not_true_eq_false, if_false, Op.intCmp, Sem.run_pure]
    have : (Int.ofNat a == Int.ofNat b) = Nat.beq a b := dec (Int.ofNat a = Int.ofNat b) (Nat.beq a b) ⟨fun h => by rw [Int.ofNat.inj h]; exact Nat.beq_refl b, fun h => by rw [Nat.eq_of_beq_eq_true h]⟩
    rw [this]
  · refine cmp _ fun w => ?_
    simp only [binOp, ne_eq, not_true_eq_false, if_false, Op.intCmp, Sem.run_pure]
    have : (Int.ofNat a == Int.ofNat b) = Nat.beq a b := dec (Int.ofNat a = Int.ofNat b) (Nat.beq a b) ⟨fun h => by rw [Int.ofNat.inj h]; exact Nat.beq_refl b, fun h => by rw [Nat.eq_of_beq_eq_true h]⟩
    show Result.ok (Value.bool !(Int.ofNat a == Int.ofNat b)) w = _
    rw [this]
    cases Nat.beq a b <;> rfl
  · exact hs
theorem shOp_q {op : BinOp} {t q : TypeId} {x y : Operand} {u z : Value} {slow : R} (ho : o.op = .binOp op t x y q) (hx : evO f x = some u) (hy : evO f y = some z) (hs : W (QI P o f s k) slow) : W (QI P o f s k) (shOp op u z slow fun v => k v s) := by
  unfold shOp
  split
  · rename_i i a j b
    have h0 : ¬ (Int.ofNat b < 0) := by
      have : (0 : Int) ≤ Int.ofNat b := Int.natCast_nonneg b
      omega
    have hm : b ≤ i.bits → min (Int.ofNat b).toNat i.bits = b := fun hb => Nat.min_eq_left hb
    unfold shF
    split
    · refine bool_w (fun _ => hs) fun hb => wrapN_w hs fun r hr => q_end (bin_int ho hx hy (by rfl) fun w => ?_)
      have hb := Nat.le_of_ble_eq_true hb
      rw [bits_of] at hb
      show (Op.shift .shl i (.ofNat a) j (.ofNat b)).run P w = _
      have e : Int.ofNat a * 2 ^ b = ((Nat.shiftLeft a b : Nat) : Int) := by
        show (a : Int) * 2 ^ b = ((a <<< b : Nat) : Int)
        rw [Nat.shiftLeft_eq]
        push_cast
        rfl
      simp only [Op.shift, if_neg h0, hm hb, e, hr, Sem.run_pure]
      rfl
    · refine bool_w (fun _ => hs) fun hb => mkInt_w (q_end (bin_int ho hx hy (by rfl) fun w => ?_))
      have hb := Nat.le_of_ble_eq_true hb
      rw [bits_of] at hb
      show (Op.shift .shr i (.ofNat a) j (.ofNat b)).run P w = _
      have e : (Int.ofNat a).fdiv (2 ^ b) = Int.ofNat (Nat.shiftRight a b) := by
        show (a : Int).fdiv (2 ^ b) = ((a >>> b : Nat) : Int)
        rw [Nat.shiftRight_eq_div_pow, Int.fdiv_eq_ediv_of_nonneg _ (by exact_mod_cast Nat.zero_le (2 ^ b))]
        push_cast
        rfl
      simp only [Op.shift, if_neg h0, hm hb, e, Sem.run_pure]
    · exact hs
  · exact hs
theorem cmpOp_q {op : BinOp} {t q : TypeId} {x y : Operand} {neg : Bool} (ho : o.op = .binOp op t x y q) (hn : isCmp op = some neg) : W (QI P o f s k) (cmpOp P o t x y neg f s k) := onO_w fun d hd => onO_w fun u hu => onO_w fun z hz => opt_w (fun _ => slowOp_q) fun r hr => by
  have hop : (neg = false ∧ op = .eql) ∨ (neg = true ∧ op = .neq) := by
    cases op <;> cases hn
    · exact .inl ⟨rfl, rfl⟩
    · exact .inr ⟨rfl, rfl⟩
  rcases hop with ⟨rfl, rfl⟩ | ⟨rfl, rfl⟩
  · exact mkBool_w (q_end (nilEql_ok ho hd (ev_eq hu) (ev_eq hz) hr))
  · have := nilNeq_ok ho hd (ev_eq hu) (ev_eq hz) hr (s := s)
    refine mkBool_w (q_end ?_)
    cases r
    · exact this
    · exact this
theorem listEq_refl {α : Type} {e : α → α → Bool} (he : ∀ x, e x x = true) : ∀ a : List α, listEq e a a = true
  | [] => rfl
  | x :: a => by
    show band (e x x) (listEq e a a) = true
    rw [he, listEq_refl he a]
    rfl
theorem listEq_is {α : Type} {e : α → α → Bool} (he : ∀ x y, e x y = true → x = y) : ∀ (a b : List α), listEq e a b = true → a = b
  | [], b, h => (List.isEmpty_iff.1 h).symm
  | x :: a, [], h => by cases h
  | x :: a, y :: b, h => by
    have h' : band (e x y) (listEq e a b) = true := h
    have h1 : e x y = true := by
      rcases hq : e x y with _ | _
      · rw [hq] at h'
        cases h'
      · rfl
    rw [h1] at h'
    rw [he x y h1, listEq_is he a b h']
theorem byteEq_beq (a b : ByteArray) : (a.toList == b.toList) = byteEq a b := by
  rw [ByteArray.toList_eq, ByteArray.toList_eq]
  rcases h : byteEq a b with _ | _
  · refine beq_eq_false_iff_ne.2 fun e => ?_
    rw [byteEq, e, listEq_refl (e := fun x y => Nat.beq (UInt8.toNat x) (UInt8.toNat y)) (fun x => Nat.beq_refl _)] at h
    cases h
  · have h1 := listEq_is (fun x y h => UInt8.toNat_inj.1 (Nat.eq_of_beq_eq_true h)) _ _ h
    rw [h1]
    exact beq_self_eq_true _
theorem bin_str {op : BinOp} {t q : TypeId} {x y : Operand} {a b : ByteArray} {z : Value} (ho : o.op = .binOp op t x y q) (hx : evO f x = some (.string a)) (hy : evO f y = some (.string b)) (hz : flat z = true) (h : ∀ w, (binOp op t (.string a) (.string b)).run P w = .ok z w) : QOk P o f s z := by
  refine qOk_of (sem := fun ev => do eqGuard op t x y (ev x) (ev y); binOp op t (ev x) (ev y)) (fun ev => by unfold execOp; rw [ho]) fun ρ w c hr hf => ?_
  have h1 := evO_sound hf hx
  have h2 := evO_sound hf hy
  obtain ⟨u1, hu1⟩ : ∃ u, c.eval x = u := ⟨_, rfl⟩
  obtain ⟨u2, hu2⟩ : ∃ u, c.eval y = u := ⟨_, rfl⟩
  rw [hu1] at h1
  rw [hu2] at h2
  cases h1
  cases h2
  refine ⟨z, ?_, flat_vr hz⟩
  have hg : ∀ w, (eqGuard op t x y (.string a) (.string b)).run P w = .ok () w := fun w => by
    unfold eqGuard
    cases op <;> rfl
  simp only [hu1, hu2, Sem.run_bind, hg, Result.andThen_ok, h]
theorem strOp_q {op : BinOp} {t q : TypeId} {x y : Operand} {u z : Value} {slow : R} (ho : o.op = .binOp op t x y q) (hx : evO f x = some u) (hy : evO f y = some z) (hs : W (QI P o f s k) slow) : W (QI P o f s k) (strOp op u z slow fun v => k v s) := by
  unfold strOp
  split
  · rename_i a b
    refine bool_w (fun _ => hs) fun h => canonL_w ?_
    have hle := Nat.le_of_ble_eq_true h
    have e : (⟨⟨app a.data.toList b.data.toList⟩⟩ : ByteArray) = a ++ b := by
      rw [app_eq]
      apply ByteArray.ext
      simp
    rw [e]
    refine q_end (bin_str ho hx hy (by rfl) fun w => ?_)
    have hn : ¬ (((a.size + b.size : Nat) : Int) > IntKind.i64.max) := by
      have : IntKind.i64.max = 9223372036854775807 := rfl
      rw [this]
      have : a.size + b.size ≤ 9223372036854775807 := hle
      omega
    show (Op.stringOp .add a b).run P w = _
    simp only [Op.stringOp, if_neg hn, Sem.run_pure]
  · rename_i a b
    refine mkBool_w (q_end (bin_str ho hx hy (by rfl) fun w => ?_))
    rw [binOp_string_eql, byteEq_beq]
    rfl
  · rename_i a b
    refine mkBool_w (q_end (bin_str ho hx hy (by rfl) fun w => ?_))
    rw [binOp_string_neq, byteEq_beq]
    cases byteEq a b <;> rfl
  · exact hs
theorem xBin_q {op : BinOp} {t q : TypeId} {x y : Operand} (ho : o.op = .binOp op t x y q) : W (QI P o f s k) (xBin P o op t x y f s k) := onO_w fun u hu => onO_w fun z hz => by
  have slow := shOp_q ho (ev_eq hu) (ev_eq hz) (strOp_q ho (ev_eq hu) (ev_eq hz) (show W (QI P o f s k) (Option.rec (motive := fun _ => R) (slowOp P o f s k) (fun neg => cmpOp P o t x y neg f s k) (isCmp op)) from opt_w (fun _ => slowOp_q) fun neg hn => cmpOp_q ho hn))
  unfold intOp
  split
  · refine bool_w (fun _ => slow) fun hk => ?_
    obtain rfl := sameKind_eq hk
    exact natOp_q ho (ev_eq hu) (ev_eq hz) slow
  · exact slow
end
end Go.Proofs.YthdjicolicokcaaGreatDoor.Ev
namespace Go.Proofs.YthdjicolicokcaaGreatDoor.Ev
open Go
def Gives (ρ : Nat → Nm) (s : St) (w : World) (v : Value) (s' : St) (e : Ending) (w' : World) : Prop := match e with
  | .returned u => ∃ ρ', SStep ρ s w ρ' s' w' ∧ VR ρ' s'.nx v u
  | _ => False
structure ClOk (P : Program) (cl : Cl) : Prop where
  calls : ∀ g vs s v s', cl false g vs s = .ok v s' → ∀ (ρ : Nat → Nm) (w : World) (us : Array Value), SR ρ s w → AR ρ s.nx vs.toArray us → Calls P g us w (Gives ρ s w v s')
  yields : ∀ l vs s v s', cl true l vs s = .ok v s' → ∀ (ρ : Nat → Nm) (w : World) (us : Array Value), SR ρ s w → AR ρ s.nx vs.toArray us → ∃ g tmps asg bd, (Instr.yield (ρ l).b us).run P w = .ok (.round (ρ l).b g tmps asg bd) w ∧ RoundIn Fence.wide 0 P (ρ l).b g tmps asg bd w (Gives ρ s w v s')
theorem callYield_ok {P : Program} {o : Oper} {f : T Value} {s : St} {c : Call} {x : Operand} {l : Nat} {a0 b0 : Array Value} {vs : List Value} (ho : o.op = .call c) (hc : c.callee = .value x) (hx : evO f x = some (.func (.yield l) a0 b0)) (ha : evAll f c.args.toList = some vs) (ρ : Nat → Nm) (w : World) (a : Act) (hf : FR ρ s.nx f a) :
    ∃ us, (execOp a.eval o).run P w = (Instr.yield (ρ l).b us).run P w ∧ AR ρ s.nx vs.toArray us := by
  have hq := evO_sound hf hx
  have har := evAll_ar hf ha
  obtain ⟨u, hu⟩ : ∃ u, a.eval x = u := ⟨_, rfl⟩
  rw [hu] at hq
  cases hq with
  | func _ _ _ _ _ hy => cases hy
  | yieldF =>
    refine ⟨c.args.map a.eval, ?_, har⟩
    rw [call_run a.eval ho]
    have hres : resolve a.eval c o.type = pure { target := .fn (.yield (ρ l).b) #[], args := #[] ++ c.args.map a.eval } := by
      unfold resolve
      rw [hc]
      simp only [hu]
      rfl
    rw [hres, Array.empty_append]
    rfl
theorem srcA_len {s : St} {size l : Nat} {x : Value} {vs : List Value} (h : srcA s size x = some (l, vs)) : vs.length = l * size := by
  unfold srcA at h
  split at h
  · simp only [Option.some.injEq, Prod.mk.injEq] at h
    obtain ⟨rfl, rfl⟩ := h
    simp
  · simp only [Option.some.injEq, Prod.mk.injEq] at h
    obtain ⟨rfl, rfl⟩ := h
    simp
  · split at h
    · split at h
      · split at h
        · rename_i hv
          simp only [Option.some.injEq, Prod.mk.injEq] at h
          obtain ⟨rfl, rfl⟩ := h
          exact (readF_get _ _ _ _ hv).1
        · cases h
      · cases h
    · cases h
  · split at h
    · rename_i hs
      simp only [Option.some.injEq, Prod.mk.injEq] at h
      obtain ⟨rfl, rfl⟩ := h
      have := Nat.eq_of_beq_eq_true hs
      subst this
      simp
    · cases h
  · cases h
section
variable {P : Program} {o : Oper} {f : T Value} {s s' : St} {v : Value} {k : K}
theorem makeSlice_ok {t e : TypeId} {x y : Operand} {i j : IntKind} {l c : Nat} {ie : TypeInfo} {z : Value} (ho : o.op = .makeSlice t x y) (hu : P.underlying t = some (.slice e)) (hie : P.info? e = some ie) (hz : ie.zero = some z) (hx : evO f x = some (.int i (.ofNat l))) (hy : evO f y = some (.int j (.ofNat c)))
    (h1 : l ≤ c) (h2 : ie.bytes * c ≤ 1048576) (h3 : c ≤ 1048576) (hfl : (rowOf z (c * ie.size)).toList.all flat = true) (h0 : c * ie.size ≠ 0) :
    ValOk P o f s (.slice (some ⟨s.nx, 0, none⟩) l c) (s.new (.cells (ofL (rowOf z (c * ie.size)).toList) (rowOf z (c * ie.size)).size e ie.size 0)) := by
  refine valOk_of (sem := fun ev => Instr.makeSlice t (ev x) (ev y)) (fun ev => by unfold execOp; rw [ho]) (fun ρ w a hr hf => ?_)
  have hp := evO_sound hf hx
  have hq := evO_sound hf hy
  obtain ⟨u, hu2⟩ : ∃ u, a.eval x = u := ⟨_, rfl⟩
  obtain ⟨g, hg2⟩ : ∃ u, a.eval y = u := ⟨_, rfl⟩
  rw [hu2] at hp
  rw [hg2] at hq
  cases hp
  cases hq
  have har : AR ρ s.nx (rowOf z (c * ie.size)) (rowOf z (c * ie.size)) := ⟨rfl, fun i x y hx hy => by
    obtain rfl := Option.some.inj (hx.symm.trans hy)
    exact flat_vr (List.all_eq_true.1 hfl x (Array.mem_toList_iff.2 (Array.mem_of_getElem? hx)))⟩
  have hsl := sl_at (ρ := ρ) (nx := s.nx) (l := l) (c := c) (b := w.heap.size) (s := 0) (e := 0)
  refine ⟨_, _, .slice (some ⟨w.heap.size, 0, none⟩) l c, ?_, (newRow_sim hr har e ie.size).less get_updH, hsl⟩
  have wl : IntKind.i64.wrap (l : Int) = (l : Int) := IntWalk.i64_in _ ⟨by omega, by omega⟩
  have wc : IntKind.i64.wrap (c : Int) = (c : Int) := IntWalk.i64_in _ ⟨by omega, by omega⟩
  have hb : ¬ ((ie.bytes : Int) * (c : Int) > 2 ^ 48) := by
    rw [← Int.natCast_mul]
    omega
  have hc0 : ¬ ((c : Int) < 0) := by omega
  have hl0 : ¬ ((l : Int) < 0) := by omega
  have hlc : ¬ ((l : Int) > (c : Int)) := by omega
  have ai : ∀ (i : IntKind) (n : Int) (w : World), (asInt (.int i n)).run P w = .ok n w := fun _ _ _ => rfl
  simp only [hu2, hg2, Instr.makeSlice, Int.ofNat_eq_natCast, Sem.run_bind, run_und hu, Result.andThen_ok, ai, run_inf hie, wl, wc, decide_eq_false hc0, decide_eq_false hb, decide_eq_false hl0, decide_eq_false hlc, Bool.or_self, Bool.false_eq_true, if_false, askRoom_run, run_siz hie, Int.toNat_natCast, if_neg h0, run_zero hie hz, Sem.run_pure]
  rfl
end
end Go.Proofs.YthdjicolicokcaaGreatDoor.Ev
