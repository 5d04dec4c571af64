import Derived.Test.YtepifamhppinjaaGreatDoorEngH4
import Derived.Test.YtepifamhppinjaaGreatDoorEngCD
/- The engine: code and calls. -/
noncomputable section
namespace Go.Eng

/-! Regions that only read: their order does not matter. -/
def memN (n : Nat) (l : List Nat) : Bool := @List.rec Nat (fun _ => Bool) false (fun m _ ih => br (Nat.beq n m) true ih) l
def afterHas (es : List Edge) (i : Nat) : Bool := @List.rec Edge (fun _ => Bool) false (fun e _ ih => br (and (Nat.beq e.on i) (Region.binds .any e)) true ih) es
/-- is every operation that comes behind bound to this one, or apart from it? -/
def behindOk (ops : Array Oper) (o : Oper) (i : Nat) (l : List Oper) : Bool :=
  @List.rec Oper (fun _ => Bool) true (fun p _ ih => br (br (afterHas p.after.toList i) true (o.apart ops p)) ih false) l
/-- do an operation's bonds lead back? -/
def bondsBack (es : List Edge) (i : Nat) : Bool := @List.rec Edge (fun _ => Bool) true (fun e _ ih => br (br (Region.binds .any e) (lt e.on i) true) ih false) es
def noSel (op : Op) : Bool := match op with | .select .. => false | _ => true
def orderOk (P : Program) (ops : Array Oper) (l : List Oper) : Nat → Bool :=
  @List.rec Oper (fun _ => Nat → Bool) (fun _ => true) (fun o l ih i => br (and (and (Nat.beq (cls P o.op) 0) (noSel o.op)) (and (bondsBack o.after.toList i) (behindOk ops o i l))) (ih (Nat.succ i)) false) l

section
variable (E : Env) (call : Call) (n : Sz)
def regionE (ops : Array Oper) (draw : Bool) : Fr → Hp → R :=
  br draw (br (orderOk E.P ops ops.toList 0) (runL E call n ops.toList ops.toList) (@Option.rec Plan (fun _ => Fr → Hp → R) (fun _ _ => .bad) (fun p => regionD E call n ops p) (planOf E.P ops))) (runL E call n ops.toList ops.toList)
def exec (c : Code) : Fr → Hp → R :=
  @Code.rec (fun _ => Fr → Hp → R)
    (fun fr h => .norm fr h)
    (fun _ ops draw => regionE E call n ops draw)
    (fun _ _ iha ihb fr h => andThen (iha fr h) ihb)
    (fun c _ _ iha ihb fr h => condR (ev n fr c) iha ihb fr h)
    (fun id _ ih fr h => inBlock id (ih fr h))
    (fun _ ih => geo ih levels)
    (fun _ _ _ _ _ _ _ _ => .bad)
    (fun id fr h => .exit id fr h)
    (fun _ _ _ _ => .bad)
    (fun _ fr h => .norm fr h)
    (fun _ _ _ => .bad)
    (fun fr h => .ret fr h)
    (fun _ _ _ => .bad) c
end
def frameOf (args : List V) : Fr → Nat → Fr := @List.rec V (fun _ => Fr → Nat → Fr) (fun fr _ => fr) (fun v _ ih fr n => num (Nat.succ n) fun m => ih (set3 fr n v) m) args
def resV (P : Program) (n : Sz) (fr : Fr) (h : Hp) (r : ResultVar) : Option V := match r with | .tmp t => some (ev n fr (.tmp t)) | .cell a t => loadV P t h (ev n fr (.tmp a))
def resL (P : Program) (n : Sz) (fr : Fr) (h : Hp) (l : List ResultVar) : Option (List V) :=
  @List.rec ResultVar (fun _ => Option (List V)) (some []) (fun r _ ih => ob (resV P n fr h r) fun v => ob ih fun vs => some (v :: vs)) l
def results1 (l : List V) : V := match l with | [v] => v | l => .tup l
def finO (P : Program) (n : Sz) (fn : Func) (fr : Fr) (h : Hp) : O := oo (resL P n fr h fn.results.toList) fun l => .val (results1 l) h
def finish (P : Program) (n : Sz) (fn : Func) (r : R) : O :=
  @R.rec (fun _ => O) (finO P n fn) (fun _ _ _ => .bad) (finO P n fn) (fun v _ h => .pan v h) .bad r
def body (E : Env) (call : Call) (G : Nat) (f : Nat) (args : List V) (h : Hp) : O :=
  oo (E.tbl f) fun fn => oo fn.body fun c => num fn.ntmps fun nt => br (and (Nat.ble (lenL args) nt) (Nat.ble nt 512)) (finish E.P ⟨nt, G⟩ fn (exec E call ⟨nt, G⟩ c (frameOf args F0 0) h)) .bad
def callAt (E : Env) (G : Nat) (n : Nat) : Call :=
  @Nat.rec (fun _ => Call) (fun _ _ _ => .bad) (fun _ ih f args h => @Option.rec (List V → Hp → O) (fun _ => O) (body E ih G f args h) (fun g => g args h) (E.nat f)) n
def isTrue (o : O) : Bool := match o with | .val (.bool true) _ => true | _ => false
end Go.Eng
