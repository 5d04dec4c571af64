import Derived.Test.YtepifamhppinjaaGreatDoorEngX
import Derived.Orders
/- The engine: regions whose order is drawn: the plan, and the run by it. -/
noncomputable section
namespace Go.Eng

/-! Sets of small numbers, as numbers. -/
def bit (m i : Nat) : Bool := Nat.beq (Nat.land (Nat.shiftRight m i) 1) 1
def one (i : Nat) : Nat := Nat.shiftLeft 1 i
def sub (a b : Nat) : Bool := Nat.beq (Nat.land a b) a

/-- what an operation is bound to, by itself or by way of others: `us` tells it of those before it -/
def upOf (us : T3 Nat) (i : Nat) (es : List Edge) : Option Nat :=
  @List.rec Edge (fun _ => Option Nat) (some 0) (fun e _ ih => br (Region.binds .any e) (br (lt e.on i) (ob ih fun m => num (Nat.lor m (Nat.lor (one e.on) (get3 us e.on))) some) none) ih) es
def upsGo (l : List Oper) : Nat → T3 Nat → Option (T3 Nat) :=
  @List.rec Oper (fun _ => Nat → T3 Nat → Option (T3 Nat)) (fun _ us => some us) (fun o _ ih i us => ob (upOf us i o.after.toList) fun m => num (Nat.succ i) fun i' => ih i' (set3 us i m)) l
def Z3 : T3 Nat := N8.rep (N8.rep (N8.rep 0))
def ups (ops : Array Oper) : Option (T3 Nat) := upsGo ops.toList 0 Z3

/-- who writes a slot: one more than the operation's number; each slot is written once -/
def wrGo (l : List Oper) : Nat → T3 Nat → Option (T3 Nat) :=
  @List.rec Oper (fun _ => Nat → T3 Nat → Option (T3 Nat)) (fun _ ws => some ws) (fun o _ ih i ws => num (Nat.succ i) fun i' =>
    @Option.rec Nat (fun _ => Option (T3 Nat)) (ih i' ws) (fun d => br (and (lt d 512) (Nat.beq (get3 ws d) 0)) (ih i' (set3 ws d i')) none) o.dst) l
def writers (ops : Array Oper) : Option (T3 Nat) := wrGo ops.toList 0 Z3
/-- does an operation stand in order with the writers of the slots that it looks at? -/
def lookOk (us ws : T3 Nat) (i : Nat) (l : List Nat) : Bool :=
  @List.rec Nat (fun _ => Bool) true (fun s _ ih => br (br (lt s 512) (@Nat.rec (fun _ => Bool) true (fun w _ => br (Nat.beq w i) true (br (bit (get3 us i) w) true (bit (get3 us w) i))) (get3 ws s)) false) ih false) l
def looksOk (ops : Array Oper) (us ws : T3 Nat) (l : List Oper) : Nat → Bool :=
  @List.rec Oper (fun _ => Nat → Bool) (fun _ => true) (fun o _ ih i => num (Nat.succ i) fun i' => br (and (noS o.op) (lookOk us ws i (o.looksAt ops))) (ih i') false) l
  where noS (op : Op) : Bool := match op with | .select .. => false | _ => true

/-- the order: each hard operation behind what it is bound to -/
def isHard (P : Program) (ops : Array Oper) (i : Nat) : Bool := @Option.rec Oper (fun _ => Bool) false (fun o => Nat.beq (cls P o.op) 2) (nth ops.toList i)
def upto (n : Nat) : List Nat := List.range n
def pickUp (m done : Nat) (l : List Nat) : List Nat := @List.rec Nat (fun _ => List Nat) [] (fun i _ ih => br (and (bit m i) (not (bit done i))) (i :: ih) ih) l
def orderGo (P : Program) (ops : Array Oper) (us : T3 Nat) (all : List Nat) (l : List Nat) : Nat → List Nat :=
  @List.rec Nat (fun _ => Nat → List Nat) (fun done => pickUp (Nat.sub (one ops.size) 1) done all)
    (fun i _ ih done => br (isHard P ops i) (app (pickUp (get3 us i) done all) (i :: num (Nat.lor done (Nat.lor (one i) (get3 us i))) ih)) (ih done)) l
def orderOf (P : Program) (ops : Array Oper) (us : T3 Nat) : List Nat := orderGo P ops us (upto ops.size) (upto ops.size) 0
/-- does the order keep the bonds? done: what stands before; grp: what stands behind the last hard one; last: one more than that one's number -/
def keepsGo (P : Program) (ops : Array Oper) (us : T3 Nat) (l : List Nat) : Nat → Nat → Nat → Bool :=
  @List.rec Nat (fun _ => Nat → Nat → Nat → Bool) (fun done _ _ => sub (Nat.sub (one ops.size) 1) done)
    (fun i _ ih done grp last =>
      br (and (lt i ops.size) (and (not (bit done i)) (sub (get3 us i) done)))
        (br (isHard P ops i)
          (br (and (sub grp (get3 us i)) (@Nat.rec (fun _ => Bool) true (fun w _ => bit (get3 us i) w) last)) (num (Nat.lor done (one i)) fun d => num (Nat.succ i) fun i' => ih d 0 i') false)
          (num (Nat.lor done (one i)) fun d => num (Nat.lor grp (one i)) fun g => ih d g last)) false) l
structure Plan where
  order : List Nat
  us : T3 Nat
def planOf (P : Program) (ops : Array Oper) : Option Plan :=
  ob (ups ops) fun us => ob (writers ops) fun ws => br (and (Nat.ble ops.size 512) (and (looksOk ops us ws ops.toList 0) (keepsGo P ops us (orderOf P ops us) 0 0 0))) (some ⟨orderOf P ops us, us⟩) none

/-! The run by a plan. -/
section
variable (E : Env) (call : Call) (n : Sz) (ops : Array Oper) (us : T3 Nat) (base : Nat)
/-- are two values known to be one? -/
def same1 (a b : V) : Bool :=
  match a, b with
  | .bool x, .bool y => br x y (not y)
  | .int k x, .int j y => and (ikEq k j) (intEq x y)
  | .str l c, .str m d => strEq l c m d
  | .ptr i x, .ptr j y => and (Nat.beq i j) (Nat.beq x y)
  | .nilp, .nilp => true
  | .sl i o l c e x, .sl j p m d f y => and (and (Nat.beq i j) (Nat.beq o p)) (and (and (Nat.beq l m) (Nat.beq c d)) (and (Nat.beq e f) (br x y (not y))))
  | .nils, .nils => true
  | .map i, .map j => Nat.beq i j
  | .nilmap, .nilmap => true
  | .nilfn, .nilfn => true
  | .nili, .nili => true
  | _, _ => false
def sameL (a b : List V) : Bool :=
  @List.rec V (fun _ => List V → Bool) (fun b => match b with | [] => true | _ => false) (fun x _ ih b => match b with | [] => false | y :: b => br (same1 x y) (ih b) false) a b
def same (a b : V) : Bool := match a, b with | .agg l, .agg m => sameL l m | a, b => same1 a b
/-- does an operation read the same on the heaps on which it may come to be run? -/
def agreeW (fr : Fr) (op : Op) (u : Nat) (v : V) (snaps : List (Nat × Hp)) : Bool :=
  @List.rec (Nat × Hp) (fun _ => Bool) true (fun p _ ih => br (br (bit u p.1) true (@Option.rec V (fun _ => Bool) false (fun w => same w v) (rdOp E.P n fr p.2 op))) ih false) snaps
/-- does an operation not look at the heap? -/
def free (op : Op) : Bool := match op with | .load _ _ => false | .convert _ _ _ => false | .lookup _ _ _ _ => false | .call _ => false | _ => true
def readW (fr : Fr) (H : Hp) (op : Op) (u : Nat) (snaps : List (Nat × Hp)) : Option V :=
  ob (rdOp E.P n fr H op) fun v => br (br (free op) true (agreeW E n fr op u v snaps)) (some v) none
def runD (l : List Nat) : List (Nat × Hp) → Hp → Fr → Hp → R :=
  @List.rec Nat (fun _ => List (Nat × Hp) → Hp → Fr → Hp → R) (fun _ _ fr h => .norm fr h) (fun j _ ih snaps H fr h =>
    @Option.rec Oper (fun _ => R) .bad (fun o =>
      @Option.rec Bool (fun _ => R) .bad (fun b =>
        @Nat.rec (fun _ => R)
          (br b (@Option.rec V (fun _ => R) .bad (fun v => ih snaps H (putF n o.dst v fr) h) (readW E n fr H o.op (get3 us j) snaps)) (ih snaps H (putF n o.dst V.undef fr) h))
          (fun m _ => @Nat.rec (fun _ => R)
            (br b (@Option.rec (Obj × (Nat → V)) (fun _ => R) .bad (fun p => num (Nat.add base j) fun id => ih snaps H (putF n o.dst (p.2 id) fr) (h.put id p.1)) (alOp E.P n fr o.op)) (ih snaps H (putF n o.dst V.undef fr) h))
            (fun _ _ => br b (@O.rec (fun _ => R) (fun v h' => ih ((j, H) :: snaps) h' (putF n o.dst v fr) h') (fun _ _ => .bad) .bad (xOp E call n o.op fr h)) (ih ((j, H) :: snaps) h (putF n o.dst V.undef fr) h)) m)
          (cls E.P o.op)) (wantE n ops.toList o.guard fr)) (nth ops.toList j)) l
end
/-- the places of objects that a region makes are empty -/
def emptyAt (h : Hp) (base : Nat) (n : Nat) : Bool :=
  @Nat.rec (fun _ => Bool) true (fun i ih => br (@Obj.rec (fun _ => Bool) true (fun _ _ => false) (fun _ _ => false) (fun _ _ => false) (fun _ _ _ => false) (h.at (Nat.add base i))) ih false) n
def regionD (E : Env) (call : Call) (n : Sz) (ops : Array Oper) (p : Plan) (fr : Fr) (h : Hp) : R :=
  @Hp.rec (fun _ => R) (fun nx t => num nx fun nx => num (Nat.add nx ops.size) fun nx' => br (and (lt nx' 262144) (emptyAt h nx ops.size)) (runD E call n ops p.us nx p.order [] ⟨nx', t⟩ fr ⟨nx', t⟩) .bad) h
end Go.Eng
