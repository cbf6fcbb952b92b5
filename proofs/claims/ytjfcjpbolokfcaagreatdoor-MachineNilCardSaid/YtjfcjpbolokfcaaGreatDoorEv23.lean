/-
  An evaluator for closed runs: the interpreter (3: regions, code, calls).
-/
import Derived.Test.YtjfcjpbolokfcaaGreatDoorEv22
namespace Go.Proofs.YtjfcjpbolokfcaaGreatDoor.Ev
open Go

section
variable (P : Program)
noncomputable def onGuard (v : Value) (k : Bool → R) (no : R) : R :=
  Value.casesOn (motive_1 := fun _ => R) v k (fun _ _ => .fail 158) (fun _ _ => .fail 158) (fun _ _ _ => .fail 158) (fun _ => .fail 158) (fun _ => .fail 158)
    (fun _ _ _ => .fail 158) (fun _ => .fail 158) (fun _ => .fail 158) (fun _ _ _ => .fail 158) (.fail 158) (fun _ _ => .fail 158) (.fail 158) (fun _ => .fail 158) (fun _ => no)
/-- A guard: is the operation wanted? -/
noncomputable def guardR (ops : Array Oper) (o : Oper) (f : T Value) (yes no : R) : R :=
  Option.rec (motive := fun _ => R) yes (fun g => onO 150 (ops[g.1]?) (fun og => onO 151 og.dst (fun d => onO 152 (acc (path d) f) (fun v => onGuard v (fun b => Bool.rec (motive := fun _ => R) (Bool.rec (motive := fun _ => R) yes no g.2) (Bool.rec (motive := fun _ => R) no yes g.2) b) no)))) o.guard
/-- Operations in their order. -/
noncomputable def xOps (cl : Cl) (N : Nat) (ops : Array Oper) (l : List Oper) : T Value → St → R :=
  List.rec (motive := fun _ => T Value → St → R) (fun f s => .normal f s) (fun o _ ih f s => guardR ops o f (xOp P cl o f s (fun v s => ih (put N o.dst v f) s)) (ih (put N o.dst undef f) s)) l
/-- Is a set of numbers in another one? -/
noncomputable def sub (m d : Nat) : Bool := Nat.beq (Nat.land m d) m
noncomputable def bit (m i : Nat) : Bool := Nat.beq (Nat.land (Nat.shiftRight m i) 1) 1
noncomputable def add1 (m i : Nat) : Nat := Nat.lor m (Nat.shiftLeft 1 i)
/-- What an operation waits for. -/
noncomputable def maskL (l : List Edge) : Nat := List.rec (motive := fun _ => Nat) 0 (fun e _ ih => Bool.rec (motive := fun _ => Nat) ih (add1 ih e.on) (Region.binds .any e)) l
noncomputable def mask (o : Oper) : Nat := maskL o.after.toList
/-- A variable's block: nobody asks whether, and it has a slot. -/
noncomputable def isA (N : Nat) (o : Oper) : Bool := match o.op, o.dst, o.guard with
  | .alloc t, some d, none => match P.info? t with
    | some i => band (Option.isSome i.zero) (Nat.ble (d + 1) N)
    | none => false
  | _, _, _ => false
/-- An order: quiet ones first, variables' blocks last. -/
noncomputable def pickI (ok : Oper → Bool) (d : Nat) (l : List (Nat × Oper)) : Option Nat := List.rec (motive := fun _ => Option Nat) none (fun x _ ih => Bool.rec (motive := fun _ => Option Nat) ih (some x.1) (band (ok x.2) (sub (mask x.2) d))) l
noncomputable def rm (i : Nat) (l : List (Nat × Oper)) : List (Nat × Oper) := List.rec (motive := fun _ => List (Nat × Oper)) [] (fun x t ih => Bool.rec (motive := fun _ => List (Nat × Oper)) (x :: ih) t (Nat.beq x.1 i)) l
noncomputable def forceL {α : Type} (n : Nat) (k : Nat → α) : α := Nat.rec (motive := fun _ => α) (k 0) (fun m _ => k (Nat.succ m)) n
noncomputable def orderF (N fuel : Nat) : Nat → List (Nat × Oper) → List Nat := Nat.rec (motive := fun _ => Nat → List (Nat × Oper) → List Nat) (fun _ _ => []) (fun _ ih d l =>
  Option.rec (motive := fun _ => List Nat) (Option.rec (motive := fun _ => List Nat) (Option.rec (motive := fun _ => List Nat) [] (fun i => forceL i (fun i => forceL (add1 d i) (fun d => i :: ih d (rm i l)))) (pickI (isA P N) d l)) (fun i => forceL i (fun i => forceL (add1 d i) (fun d => i :: ih d (rm i l)))) (pickI (fun o => band (bnot (quiet o)) (bnot (isA P N o))) d l)) (fun i => forceL i (fun i => forceL (add1 d i) (fun d => i :: ih d (rm i l)))) (pickI quiet d l)) fuel
noncomputable def numb (l : List Oper) : Nat → List (Nat × Oper) := List.rec (motive := fun _ => Nat → List (Nat × Oper)) (fun _ => []) (fun o _ ih i => forceL i (fun i => (i, o) :: ih (i + 1))) l
noncomputable def order (N : Nat) (ops : Array Oper) : List Nat := orderF P N ops.size 0 (numb ops.toList 0)
noncomputable def allL {α : Type} (p : α → Bool) (l : List α) : Bool := List.rec (motive := fun _ => Bool) true (fun x _ ih => band (p x) ih) l
/-- The variables' blocks among some. -/
noncomputable def allocs (N : Nat) (l : List (Nat × Oper)) : Nat := List.rec (motive := fun _ => Nat) 0 (fun x _ ih => Bool.rec (motive := fun _ => Nat) ih (add1 ih x.1) (isA P N x.2)) l
/-- No other one may come now. -/
noncomputable def alone (N : Nat) (l : List (Nat × Oper)) (d i : Nat) : Bool := allL (fun x => Bool.rec (motive := fun _ => Bool) (Bool.rec (motive := fun _ => Bool) (Bool.rec (motive := fun _ => Bool) (Bool.rec (motive := fun _ => Bool) (bnot (sub (mask x.2) (Nat.lor d (allocs P N l)))) true (bit (mask x.2) i)) true (isA P N x.2)) true (Nat.beq x.1 i)) true (bit d x.1)) l
noncomputable def okOrd (N : Nat) (l : List (Nat × Oper)) (ops : Array Oper) (pi : List Nat) : Nat → Bool := List.rec (motive := fun _ => Nat → Bool) (fun d => allL (fun x => bit d x.1) l)
  (fun i _ ih d => band (bnot (bit d i)) (Option.rec (motive := fun _ => Bool) false (fun o => band (sub (mask o) d) (band (Bool.rec (motive := fun _ => Bool) (alone P N l d i) true (quiet o)) (forceL (add1 d i) ih))) (nth ops.toList i))) pi
noncomputable def memN (d : Nat) (l : List Nat) : Bool := List.rec (motive := fun _ => Bool) false (fun x _ ih => Bool.rec (motive := fun _ => Bool) ih true (Nat.beq x d)) l
noncomputable def okSlots (N : Nat) (l : List (Nat × Oper)) (ops : Array Oper) : Bool := allL (fun x => Option.rec (motive := fun _ => Bool) true (fun d => Bool.rec (motive := fun _ => Bool)
    (Bool.rec (motive := fun _ => Bool) true (allL (fun y => Bool.rec (motive := fun _ => Bool) (band (Option.rec (motive := fun _ => Bool) true (fun e => bnot (Nat.beq e d)) y.2.dst) (Bool.rec (motive := fun _ => Bool) true (Bool.rec (motive := fun _ => Bool) (bit (mask x.2) y.1) true (bit (mask y.2) x.1)) (memN d (y.2.looksAt ops)))) true (Nat.beq y.1 x.1)) l) (isA P N x.2))
    (band (bnot (memN d (x.2.looksAt ops))) (allL (fun y => Bool.rec (motive := fun _ => Bool) (band (Option.rec (motive := fun _ => Bool) true (fun e => bnot (Nat.beq e d)) y.2.dst) (Bool.rec (motive := fun _ => Bool) true (bit (mask y.2) x.1) (memN d (y.2.looksAt ops)))) true (Nat.beq y.1 x.1)) l))
    (quiet x.2)) x.2.dst) l
noncomputable def okDraw (N : Nat) (ops : Array Oper) : Bool := band (Region.noSelect ops) (band (okSlots P N (numb ops.toList 0) ops) (okOrd P N (numb ops.toList 0) ops (order P N ops) 0))
/-- What was read, and may be read behind an operation in the model: reads what it did. -/
noncomputable def slotIs (N : Nat) (d : Option Tmp) (v : Value) (f : T Value) (r : R) : R := Option.rec (motive := fun _ => R) r (fun d => Bool.rec (motive := fun _ => R) r (onO 200 (acc (path d) f) (fun u => onB 201 (veq u v) r)) (Nat.ble (Nat.succ d) N)) d
noncomputable def again (cl : Cl) (N : Nat) (ops : Array Oper) (l : List Nat) (f : T Value) (s : St) (r : R) : R := List.rec (motive := fun _ => R) r (fun i _ ih => onO 202 (nth ops.toList i) (fun o => guardR ops o f (xOp P cl o f s (fun v _ => slotIs N o.dst v f ih)) (slotIs N o.dst undef f ih))) l
/-- All that an operation waits for, and what that waits for. -/
noncomputable def clos (ops : Array Oper) (D : List Nat) : Nat → Nat := List.rec (motive := fun _ => Nat → Nat) (fun m => m) (fun i _ ih m => Bool.rec (motive := fun _ => Nat) (ih m) (Option.rec (motive := fun _ => Nat) (ih m) (fun o => forceL (Nat.lor m (mask o)) ih) (nth ops.toList i)) (bit m i)) D
noncomputable def behind (ops : Array Oper) (m : Nat) (D : List Nat) : List Nat := List.rec (motive := fun _ => List Nat) [] (fun i _ ih => Bool.rec (motive := fun _ => List Nat) (Option.rec (motive := fun _ => List Nat) ih (fun o => Bool.rec (motive := fun _ => List Nat) ih (i :: ih) (quiet o)) (nth ops.toList i)) ih (bit m i)) D
noncomputable def xDr (cl : Cl) (N : Nat) (ops : Array Oper) (pi : List Nat) : List Nat → T Value → St → R :=
  List.rec (motive := fun _ => List Nat → T Value → St → R) (fun _ f s => .normal f s)
    (fun i _ ih D f s => onO 203 (nth ops.toList i) (fun o => Bool.rec (motive := fun _ => R)
      (guardR ops o f (xOp P cl o f s (fun v s => again P cl N ops (behind ops (clos ops D (mask o)) D) (put N o.dst v f) s (ih (i :: D) (put N o.dst v f) s)))
        (again P cl N ops (behind ops (clos ops D (mask o)) D) (put N o.dst undef f) s (ih (i :: D) (put N o.dst undef f) s)))
      (guardR ops o f (xOp P cl o f s (fun v s => ih (i :: D) (put N o.dst v f) s)) (ih (i :: D) (put N o.dst undef f) s))
      (quiet o))) pi
noncomputable def xDrawn (cl : Cl) (N : Nat) (ops : Array Oper) (f : T Value) (s : St) : R := onB 204 (okDraw P N ops) (xDr P cl N ops (order P N ops) [] f s)
/-- Code. -/
noncomputable def xCode (cl : Cl) (N fuel : Nat) (c : Code) : T Value → St → R :=
  Code.rec (motive := fun _ => T Value → St → R)
    (fun f s => .normal f s)
    (fun _ ops draw => Bool.rec (motive := fun _ => T Value → St → R) (xOps P cl N ops ops.toList) (xDrawn P cl N ops) draw)
    (fun _ _ iha ihb f s => R.rec (motive := fun _ => R) (fun n => .fail n) ihb (fun f s => .ret f s) (fun i f s => .exit i f s) (iha f s))
    (fun c _ _ iha ihb f s => onO 153 (ev c f) (fun v => onBool v (fun b => Bool.rec (motive := fun _ => R) (ihb f s) (iha f s) b)))
    (fun id _ ih f s => R.rec (motive := fun _ => R) (fun n => .fail n) (fun f s => .normal f s) (fun f s => .ret f s) (fun i f s => Bool.rec (motive := fun _ => R) (.exit i f s) (.normal f s) (Nat.beq i id)) (ih f s))
    (fun _ ih => Nat.rec (motive := fun _ => T Value → St → R) (fun _ _ => .fail 154) (fun _ lp f s => R.rec (motive := fun _ => R) (fun n => .fail n) lp (fun f s => .ret f s) (fun i f s => .exit i f s) (ih f s)) fuel)
    (fun _ _ _ _ _ _ _ _ => .fail 155)
    (fun id f s => .exit id f s)
    (fun _ ih => ih)
    (fun _ f s => .normal f s)
    (fun _ _ _ => .fail 156)
    (fun f s => .ret f s)
    (fun _ _ _ => .fail 157)
    c
noncomputable def onOC {α : Type} (why : Nat) (o : Option α) (k : α → CR) : CR := Option.rec (motive := fun _ => CR) (.fail why) k o
/-- A result. -/
noncomputable def resV (f : T Value) (s : St) (r : ResultVar) : Option Value :=
  ResultVar.rec (motive := fun _ => Option Value) (fun t => acc (path t) f)
    (fun a ty => Option.rec (motive := fun _ => Option Value) none (fun v => match v, P.underlying ty with
      | .pointer (some ⟨n, k, none⟩), some d => match s.h.get n with
        | some (.cells t m _ _ _) => match isAggD d with
          | false => match Nat.ble (k + 1) m with
            | true => t.get k
            | false => none
          | true => match P.info? ty with
            | some i => match Nat.ble (k + i.size) m with
              | true => match readF t k i.size with
                | some vs => some (.agg vs.toArray)
                | none => none
              | false => none
            | none => none
        | _ => none
      | _, _ => none) (acc (path a) f)) r
noncomputable def resVs (f : T Value) (s : St) (rs : List ResultVar) : Option (List Value) :=
  List.rec (motive := fun _ => Option (List Value)) (some []) (fun r _ ih => Option.rec (motive := fun _ => Option (List Value)) none (fun v => Option.rec (motive := fun _ => Option (List Value)) none (fun vs => some (v :: vs)) ih) (resV P f s r)) rs
noncomputable def single (vs : List Value) : Value := match vs with
  | [v] => v
  | vs => .tuple vs.toArray
noncomputable def xRes (fn : Func) (f : T Value) (s : St) : CR := onOC 160 (resVs P f s fn.results.toList) (fun vs => .ok (single vs) s)
/-- A call. -/
noncomputable def xCl (hook : Cl → Cl) (fuel : Nat) : Nat → Cl := Nat.rec (motive := fun _ => Cl) (fun _ _ _ => .fail 161) (fun _ ih => hook (fun g vs s =>
  onOC 162 (P.funcs[g]?) (fun fn => onOC 163 fn.body (fun c => Bool.rec (motive := fun _ => CR) (.fail 165) (R.rec (motive := fun _ => CR) (fun n => .fail (Nat.add (Nat.mul n 1000) g)) (fun f s => xRes P fn f s) (fun f s => xRes P fn f s) (fun i _ _ => .fail (Nat.add 164 i)) (xCode P ih fn.ntmps fuel c (ofL vs) s)) (Nat.ble vs.length fn.ntmps)))))
end
/-- The sorted keys of a map with one entry at most, whose keys are numbers: maps.Keys (function m, its iterator i, a box of type t), slices.Sorted (function g, elements of type e). -/
noncomputable def keysC (i t : Nat) (vs : List Value) (s : St) : CR := match vs with
  | [.map (some n)] => .ok (.func (.func i) #[] #[.pointer (some ⟨s.nx, 0, none⟩)]) (s.new (.boxed (.map (some n)) t))
  | _ => .fail 190
noncomputable def sortedC (i e : Nat) (vs : List Value) (s : St) : CR := match vs with
  | [.func (.func j) a b] => match Nat.beq j i, a.toList, b.toList with
    | true, [], [.pointer (some ⟨n, 0, none⟩)] => match s.h.get n with
      | some (.boxed (.map (some q)) _) => match s.h.get q with
        | some (.map [] _) => .ok (.slice none 0 0) s
        | some (.map [⟨.int .i64 (.ofNat x), _, c⟩] clock) => match Nat.ble (c + 1) clock, Nat.ble x 9223372036854775807 with
          | true, true => .ok (.slice (some ⟨s.nx, 0, none⟩) 1 1) (s.new (.cells (ofL [.int .i64 (.ofNat x)]) 1 e 1 0))
          | _, _ => .fail 191
        | _ => .fail 192
      | _ => .fail 193
    | _, _, _ => .fail 194
  | _ => .fail 195
noncomputable def hookS (g m i t e : Nat) (cl : Cl) : Cl := fun q vs s => Bool.rec (motive := fun _ => CR) (Bool.rec (motive := fun _ => CR) (cl q vs s) (keysC i t vs s) (Nat.beq q m)) (sortedC i e vs s) (Nat.beq q g)
end Go.Proofs.YtjfcjpbolokfcaaGreatDoor.Ev
