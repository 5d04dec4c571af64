import Derived.Test.YtepifamhppinjaaGreatDoorEng
/- The engine: operations, regions, code, calls. -/
noncomputable section
namespace Go.Eng

/-- equality of two values of cells, where it is known -/
def veq1 (x y : V) : Option Bool :=
  match x, y with
  | .str l c, .str m d => some (strEq l c m d)
  | .int k a, .int j b => br (ikEq k j) (some (intEq a b)) none
  | .bool a, .bool b => some (@Bool.rec (fun _ => Bool) (not b) b a)
  | _, _ => none
def veqL (a b : List V) : Option Bool :=
  @List.rec V (fun _ => List V → Option Bool) (fun b => match b with | [] => some true | _ => none)
    (fun x _ ih b => match b with | [] => none | y :: b => ob (veq1 x y) fun e => ob (ih b) fun r => some (and e r)) a b

def isEq (op : BinOp) : Option Bool := @BinOp.rec (fun _ => Option Bool) none none none none none none none none none none none (some true) (some false) none none none none op
def isShift (op : BinOp) : Bool := @BinOp.rec (fun _ => Bool) false false false false false false false false true true false false false false false false false op

section
variable (P : Program)
def und (t : Nat) : Option TypeDesc := P.underlying t
def szOf (t : Nat) : Option Nat := ob (P.info? t) fun i => some i.size
def zeroV (t : Nat) : Option V := ob (P.info? t) fun i => ob i.zero fun z => some (ofValue z)
/-- a type's zero value, as cells -/
def zero (t : Nat) : Option (List V) := ob (P.info? t) fun i => ob i.zero fun z => br (and (ofValue z).known (Nat.beq (lenL (ofValue z).cells) i.size)) (some (ofValue z).cells) none
def aggT (d : TypeDesc) : Bool := match d with | .struct _ => true | .array .. => true | _ => false
def isAggT (t : Nat) : Option Bool := ob (und P t) fun d => some (aggT d)
def fieldOf (t f : Nat) : Option Field := ob (und P t) fun d => match d with | .struct fs => nth fs.toList f | _ => none
def elemOf (t : Nat) : Option Nat := ob (und P t) fun d => match d with | .slice e => some e | _ => none
/-- the fields of a struct whose parts are all strings, integers or bools -/
def plainD (d : TypeDesc) : Bool := match d with | .string => true | .int _ => true | .bool => true | _ => false
def plainT (t : Nat) : Bool := @Option.rec TypeDesc (fun _ => Bool) false plainD (und P t)
def plainFs (fs : List Field) (n : Nat) : Bool :=
  @List.rec Field (fun _ => Nat → Bool) (fun _ => true) (fun f _ ih n => and (and (plainT P f.type) (and (Nat.beq f.offset n) (not (f.name == "_")))) (ih (Nat.succ n))) fs n
def plainS (t : Nat) : Bool := @Option.rec TypeDesc (fun _ => Bool) false (fun d => match d with | .struct fs => plainFs P fs.toList 0 | _ => false) (und P t)

def dPtr (d : TypeDesc) : Option Nat := match d with | .pointer e => some e | _ => none
def dBool (d : TypeDesc) : Bool := match d with | .bool => true | _ => false
def dIface (d : TypeDesc) : Bool := match d with | .interface _ => true | _ => false
def dSlice (d : TypeDesc) : Bool := match d with | .slice _ => true | _ => false
def dMap (d : TypeDesc) : Bool := match d with | .map _ _ => true | _ => false
def dFunc (d : TypeDesc) : Bool := match d with | .func _ _ _ => true | _ => false
/-- equality at a type, where it is known -/
def eqV (t : Nat) (x y : V) : Option Bool :=
  ob (und P t) fun d =>
  match x, y with
  | .bool a, .bool b => br (dBool d) (some (br a b (not b))) none
  | .ptr i a, .ptr j b => ob (dPtr d) fun e => ob (szOf P e) fun z => br (and (Nat.beq i j) (not (Nat.beq z 0))) (some (Nat.beq a b)) none
  | .nilp, .nilp => ob (dPtr d) fun _ => some true
  | .nilp, .ptr _ _ => ob (dPtr d) fun _ => some false
  | .ptr _ _, .nilp => ob (dPtr d) fun _ => some false
  | .nili, .iface _ _ => br (dIface d) (some false) none
  | .iface _ _, .nili => br (dIface d) (some false) none
  | .nils, .nils => br (dSlice d) (some true) none
  | .nils, .sl .. => br (dSlice d) (some false) none
  | .sl .., .nils => br (dSlice d) (some false) none
  | .nils, .sl0 => br (dSlice d) (some false) none
  | .sl0, .nils => br (dSlice d) (some false) none
  | .nilmap, .nilmap => br (dMap d) (some true) none
  | .nilmap, .map _ => br (dMap d) (some false) none
  | .map _, .nilmap => br (dMap d) (some false) none
  | .nilfn, .nilfn => br (dFunc d) (some true) none
  | .nilfn, .fn .. => br (dFunc d) (some false) none
  | .fn .., .nilfn => br (dFunc d) (some false) none
  | _, _ => none
def binV (op : BinOp) (t : Nat) (x y : V) : Option V :=
  match x, y with
  | .int k a, .int j b => br (isShift op) (opShift op k a b) (br (ikEq k j) (opInt op k a b) none)
  | .str l c, .str m d => opStr op l c m d
  | x, y => ob (isEq op) fun e => ob (eqV P t x y) fun b => sBool (br e b (not b))
def unV (op : UnOp) (x : V) : Option V :=
  match op, x with
  | .neg, .int k n => some (wrapI k (Int.sub 0 n))
  | .not, .bool b => sBool (not b)
  | _, _ => none

def asN (v : V) : Option Nat := match v with | .int _ n => @Int.rec (fun _ => Option Nat) some (fun _ => none) n | _ => none
def loadV (t : Nat) (h : Hp) (v : V) : Option V :=
  match v with
  | .ptr id off => ob (isAggT P t) fun b => br b (ob (szOf P t) fun n => ob (h.cells id off n) fun l => some (.agg l)) (h.cell id off)
  | _ => none
def storeV (t : Nat) (h : Hp) (a v : V) : Option Hp :=
  match a with
  | .ptr id off => ob (szOf P t) fun n => br (Nat.beq (lenL v.cells) n) (h.store id off v.cells) none
  | _ => none
def rep {α : Type} (a : List α) (n : Nat) : List α := @Nat.rec (fun _ => List α) [] (fun _ ih => app a ih) n
/-- a new row -/
def row (n : Nat) (l : List V) : Option Obj := br (and (Nat.ble n 4096) (Nat.beq (lenL l) n)) (some (.arr n (AT.ofList n l))) none

/-- parts laid into cells -/
def lay (l : List V) : List V → Nat → List V := @List.rec V (fun _ => List V → Nat → List V) (fun cs _ => cs) (fun v _ ih cs i => ih (setNth cs i v) (Nat.succ i)) l
def fillV (place : Nat → Option (Nat × Nat)) (ps : List (Nat × V)) : List V → Option (List V) :=
  @List.rec (Nat × V) (fun _ => List V → Option (List V)) (fun cs => some cs)
    (fun p _ ih cs => ob (place p.1) fun q => br (and p.2.known (and (Nat.beq (lenL p.2.cells) q.2) (Nat.ble (Nat.add q.1 (lenL p.2.cells)) (lenL cs)))) (ih (lay p.2.cells cs q.1)) none) ps
def partsV (n : Sz) (fr : Fr) (ps : List (Nat × Operand)) : List (Nat × V) :=
  @List.rec (Nat × Operand) (fun _ => List (Nat × V)) [] (fun p _ ih => (p.1, ev n fr p.2) :: ih) ps
def placeS (fs : List Field) (i : Nat) : Option (Nat × Nat) := ob (nth fs i) fun f => ob (szOf P f.type) fun z => some (f.offset, z)
def allSz (fs : List Field) : Bool := @List.rec Field (fun _ => Bool) true (fun f _ ih => br (@Option.rec Nat (fun _ => Bool) false (fun _ => true) (szOf P f.type)) ih false) fs
def buildV (t : Nat) (n : Sz) (ps : List (Nat × Operand)) (fr : Fr) : Option V :=
  ob (und P t) fun d => ob (zeroV P t) fun z => br z.known (match d with
  | .struct fs => br (allSz P fs.toList) (ob (fillV (placeS P fs.toList) (partsV n fr ps) z.cells) fun l => some (.agg l)) none
  | .array _ e => ob (szOf P e) fun sz => ob (fillV (fun i => some (Nat.mul i sz, sz)) (partsV n fr ps) z.cells) fun l => some (.agg l)
  | _ => none) none

def boundN (o : Option Operand) (n : Sz) (fr : Fr) (d : Nat) : Option Nat := @Option.rec Operand (fun _ => Option Nat) (some d) (fun x => asN (ev n fr x)) o
def cut (l h len code : Nat) : V := num (Nat.sub h l) fun n => num (Nat.mod (Nat.div code (Nat.pow 256 (Nat.sub len h))) (Nat.pow 256 n)) fun c => .str n c
def isNone {α : Type} (o : Option α) : Bool := @Option.rec α (fun _ => Bool) true (fun _ => false) o
/-- the part [l:h:m] of a row that begins at off; mx: is there a third index? -/
def cutSl (id off es l h m : Nat) (ex : Bool) : Option V :=
  br (Nat.beq l 0) (num (Nat.sub h 0) fun n => num m fun c => some (.sl id off n c es ex))
    (br (lt l m) (num (Nat.add off (Nat.mul l es)) fun o => num (Nat.sub h l) fun n => num (Nat.sub m l) fun c => some (.sl id o n c es ex)) (br ex (some (.sl id off 0 0 es true)) (some .sl0)))
def sliceV (t : Nat) (n : Sz) (fr : Fr) (x : V) (lo hi mx : Option Operand) : Option V :=
  match x with
  | .str len code => ob (und P t) fun d => match d with
      | .string => br (isNone mx) (ob (boundN hi n fr len) fun h => ob (boundN lo n fr 0) fun l => br (and (Nat.ble l h) (Nat.ble h len)) (some (cut l h len code)) none) none
      | _ => none
  | .nils => ob (elemOf P t) fun e => ob (szOf P e) fun _ => ob (boundN mx n fr 0) fun m => ob (boundN hi n fr 0) fun h => ob (boundN lo n fr 0) fun l => br (and (Nat.beq l 0) (and (Nat.beq h 0) (Nat.beq m 0))) (some .nils) none
  | .sl id off len cap es ex => ob (elemOf P t) fun e => ob (szOf P e) fun sz => br (Nat.beq sz es) (ob (boundN mx n fr cap) fun m => ob (boundN hi n fr len) fun h => ob (boundN lo n fr 0) fun l =>
      br (and (Nat.ble l h) (and (Nat.ble h m) (Nat.ble m cap))) (cutSl id off es l h m (or ex (not (isNone mx)))) none) none
  | _ => none
def indexAddrV (t : Nat) (x ix : V) : Option V :=
  ob (asN ix) fun i =>
  match x with
  | .sl id off len _ es _ => ob (elemOf P t) fun e => ob (szOf P e) fun sz => br (and (Nat.beq sz es) (lt i len)) (num (Nat.add off (Nat.mul i es)) fun o => some (.ptr id o)) none
  | .ptr id off => ob (und P t) fun d => match d with
      | .array n e => ob (szOf P e) fun es => br (lt i n) (num (Nat.add off (Nat.mul i es)) fun o => some (.ptr id o)) none
      | _ => none
  | _ => none
def partV (t off : Nat) (l : List V) : Option V :=
  ob (isAggT P t) fun b => br b (ob (szOf P t) fun n => br (Nat.ble (Nat.add off n) (lenL l)) (some (.agg ((l.drop off).take n))) none) (nth l off)
def indexV (t : Nat) (x ix : V) : Option V :=
  ob (asN ix) fun i =>
  match x with
  | .str len code => ob (und P t) fun d => match d with
      | .string => br (lt i len) (num (Nat.mod (Nat.div code (Nat.pow 256 (Nat.sub len (Nat.succ i)))) 256) fun b => some (.int .u8 (.ofNat b))) none
      | _ => none
  | .agg l => ob (und P t) fun d => match d with
      | .array n e => ob (szOf P e) fun es => br (lt i n) (partV P e (Nat.mul i es) l) none
      | _ => none
  | _ => none
def bytesV (len code : Nat) : List V :=
  @Nat.rec (fun _ => Nat → List V → List V) (fun _ acc => acc) (fun _ ih c acc => num (Nat.div c 256) fun c' => num (Nat.mod c 256) fun b => ih c' (.int .u8 (.ofNat b) :: acc)) len code []
def codeV (l : List V) : Nat → Option Nat :=
  @List.rec V (fun _ => Nat → Option Nat) (fun a => some a) (fun v _ ih a => match v with
    | .int .u8 n => @Int.rec (fun _ => Option Nat) (fun m => br (lt m 256) (num (Nat.add (Nat.mul a 256) m) fun a => ih a) none) (fun _ => none) n
    | _ => none) l
def isU8 (e : Nat) : Bool := @Option.rec TypeDesc (fun _ => Bool) false (fun d => match d with | .int .u8 => true | _ => false) (und P e)
/-- conversions that make nothing -/
def convV (src dst : Nat) (x : V) (h : Hp) : Option V :=
  ob (und P src) fun s => ob (und P dst) fun d =>
  match x with
  | .int _ n => (match d with | .int k => some (wrapI k n) | _ => none)
  | .str len code => (match d with | .string => some (.str len code) | _ => none)
  | .nils => (match s, d with | .slice e, .string => br (isU8 P e) (some (.str 0 0)) none | _, _ => none)
  | .sl id off len _ _ _ => (match s, d with
      | .slice e, .string => br (isU8 P e) (ob (h.cells id off len) fun l => ob (codeV l 0) fun c => some (.str len c)) none
      | _, _ => none)
  | _ => none
/-- is the conversion one of a string to a slice? -/
def convAl (_src dst : Nat) : Bool :=
  @Option.rec TypeDesc (fun _ => Bool) false (fun d => match d with | .slice _ => true | _ => false) (und P dst)

/-! Maps. -/
/-- does a key's value fit its type, and is it one that is told by itself? -/
def keyD (d : TypeDesc) (k : V) : Bool := match d, k with | .string, .str _ _ => true | .int _, .int _ _ => true | .bool, .bool _ => true | _, _ => false
def keyOk (kt : Nat) (k : V) : Bool := @Option.rec TypeDesc (fun _ => Bool) false (fun d => keyD d k) (und P kt)
def findK (k : V) (es : List (V × V × Nat)) : Option (Option V) :=
  @List.rec (V × V × Nat) (fun _ => Option (Option V)) (some none) (fun e _ ih => ob (veq1 k e.1) fun b => br b (some (some e.2.1)) ih) es
def setK (k x : V) (clock : Nat) (es : List (V × V × Nat)) : Option (Bool × List (V × V × Nat)) :=
  @List.rec (V × V × Nat) (fun _ => Option (Bool × List (V × V × Nat))) (some (false, [(k, x, clock)]))
    (fun e es ih => ob (veq1 k e.1) fun b => br b (some (true, (k, x, e.2.2) :: es)) (ob ih fun r => some (r.1, e :: r.2))) es
def delK (k : V) (es : List (V × V × Nat)) : Option (List (V × V × Nat)) :=
  @List.rec (V × V × Nat) (fun _ => Option (List (V × V × Nat))) (some [])
    (fun e es ih => ob (veq1 k e.1) fun b => br b (some es) (ob ih fun r => some (e :: r))) es

/-! Builtins. -/
def srcV (es : Nat) (x : V) (h : Hp) : Option (Nat × List V) :=
  match x with
  | .nils => some (0, [])
  | .str len code => br (Nat.beq es 1) (some (len, bytesV len code)) none
  | .sl id off len _ es' _ => br (Nat.beq es es') (ob (h.cells id off (Nat.mul len es)) fun l => some (len, l)) none
  | _ => none
def lenV (t : Nat) (x : V) (h : Hp) : Option V :=
  ob (und P t) fun d =>
  match x, d with
  | .str len _, .string => some (.int .i64 (.ofNat len))
  | .nils, .slice _ => some (.int .i64 (.ofNat 0))
  | .sl _ _ len _ _ _, .slice _ => some (.int .i64 (.ofNat len))
  | .sl0, .slice _ => some (.int .i64 (.ofNat 0))
  | .nilmap, .map .. => some (.int .i64 (.ofNat 0))
  | .map id, .map .. => @Obj.rec (fun _ => Option V) none (fun _ _ => none) (fun _ _ => none) (fun es _ => num (lenL es) fun n => some (.int .i64 (.ofNat n))) (fun _ _ _ => none) (h.at id)
  | _, .array n _ => some (.int .i64 (.ofNat n))
  | _, .pointer e => ob (und P e) fun d => (match d with | .array n _ => some (.int .i64 (.ofNat n)) | _ => none)
  | _, _ => none
/-- is a type one that 'append' reads as a number of zeros? -/
def isIntT (t : Nat) : Option Bool := ob (und P t) fun d => match d with | .int _ => some true | _ => some false
def appendV (e es : Nat) (s : V) (n : Nat) (l : List V) (h : Hp) : O :=
  oo (P.info? e) fun i => oo (zero P e) fun _ =>
  match s with
  | .nils => br (Nat.beq n 0) (.val .nils h) (br (and (Nat.ble n 1048576) (Nat.ble i.bytes 65536)) (oo (row (Nat.mul n es) l) fun o => h.new o fun id h => .val (.sl id 0 n n es false) h) .bad)
  | .sl id off len cap es' ex =>
    br (Nat.beq es es')
      (num (Nat.add len n) fun m =>
        br (and (Nat.ble m 1048576) (Nat.ble i.bytes 65536))
        (br (Nat.ble m cap)
          (oo (h.store id (Nat.add off (Nat.mul len es)) l) fun h => .val (.sl id off m cap es ex) h)
          (@Obj.rec (fun _ => O) .bad
            (fun have_ a => br (and (Nat.ble (Nat.add off (Nat.mul len es)) have_) (and (Nat.ble (Nat.mul m es) 4096) (allOne l)))
              (br ex
                (oo (row (Nat.mul m es) (app (a.cells (Nat.mul len es) off) l)) fun o => h.new o fun id' h => .val (.sl id' 0 m m es false) h)
                (br (Nat.beq off 0)
                  ((h.put id .none).new (.arr (Nat.mul m es) (a.push (Nat.mul len es) (lenL l) l)) fun id' h => .val (.sl id' 0 m m es false) h)
                  .bad))
              .bad)
            (fun have_ a => br (and ex (Nat.ble (Nat.add off (Nat.mul len es)) have_))
                (oo (row (Nat.mul m es) (app (a.cells (Nat.mul len es) off) l)) fun o => h.new o fun id' h => .val (.sl id' 0 m m es false) h) .bad)
            (fun _ _ => .bad) (fun _ _ _ => .bad) (h.at id)))
        .bad)
      .bad
  | _ => .bad
def copyV (es : Nat) (d x : V) (h : Hp) : O :=
  oo (srcV es x h) fun r =>
  match d with
  | .nils => .val (.int .i64 (.ofNat 0)) h
  | .sl id off len _ es' _ => br (Nat.beq es es') (num (br (Nat.ble r.1 len) r.1 len) fun n =>
      oo (h.store id off (r.2.take (Nat.mul n es))) fun h => .val (.int .i64 (.ofNat n)) h) .bad
  | _ => .bad
end

/-! Operations: what only reads; what makes one object; what does more. -/
abbrev Call := Nat → List V → Hp → O
/-- what stands below an engine: the program's functions by their numbers, and what is taken in place of a function -/
structure Env where
  P : Program
  tbl : Nat → Option Func
  nat : Nat → Option (List V → Hp → O)
  ext : Nat → Option (List V → Hp → O)

def val (o : Option V) (h : Hp) : O := oo o fun v => .val v h
section
variable (P : Program) (n : Sz) (fr : Fr) (h : Hp)
def rPick (c a b : Operand) : Option V := match ev n fr c with | .bool t => some (br t (ev n fr a) (ev n fr b)) | _ => none
def rNil (x : Operand) : Option V :=
  match ev n fr x with
  | .ptr a b => some (.ptr a b)
  | .iface t v => some (.iface t v)
  | .fn f a b => some (.fn f a b)
  | _ => none
def rIface (t : Nat) (x : Operand) : Option V := ob (und P t) fun d => match d with | .interface _ => none | _ => some (.iface t (ev n fr x))
def rFieldAddr (s : Nat) (x : Operand) (f : Nat) : Option V :=
  ob (fieldOf P s f) fun f => ob (szOf P f.type) fun z => br (Nat.beq z 0) none (match ev n fr x with | .ptr id off => num (Nat.add off f.offset) fun o => some (.ptr id o) | _ => none)
def rField (t : Nat) (x : Operand) (f : Nat) : Option V :=
  ob (fieldOf P t f) fun f => match ev n fr x with | .agg l => partV P f.type f.offset l | _ => none
def rLookup (t : Nat) (m k : Operand) (ok : Bool) : Option V :=
  ob (und P t) fun d => match d with
  | .map kt e => br (keyOk P kt (ev n fr k)) (ob (zeroV P e) fun z =>
    match ev n fr m with
    | .nilmap => some (br ok (.tup [z, .bool false]) z)
    | .map id => @Obj.rec (fun _ => Option V) none (fun _ _ => none) (fun _ _ => none) (fun es _ => ob (findK (ev n fr k) es) fun r => @Option.rec V (fun _ => Option V) (some (br ok (.tup [z, .bool false]) z)) (fun v => some (br ok (.tup [v, .bool true]) v)) r) (fun _ _ _ => none) (h.at id)
    | _ => none) none
  | _ => none
def rExtract (x : Operand) (i : Nat) : Option V := match ev n fr x with | .tup l => nth l i | _ => none
def rAssert (x : Operand) (t : Nat) (ok : Bool) : Option V :=
  ob (und P t) fun d => match d with
  | .interface _ => none
  | _ => match ev n fr x with
    | .iface u v => br (Nat.beq u t) (some (br ok (.tup [v, .bool true]) v)) none
    | _ => none
def rBuiltin (b : Builtin) (ts : List Nat) (xs : List V) : Option V :=
  match b, ts, xs with
  | .len, t :: _, [x] => lenV P t x h
  | .max, _, [.int k a, .int j b] => br (ikEq k j) (some (.int k (br (intLe b a) a b))) none
  | .min, _, [.int k a, .int j b] => br (ikEq k j) (some (.int k (br (intLe a b) a b))) none
  | _, _, _ => none
def rCall (c : Go.Call) : Option V := match c.callee with | .builtin b => rBuiltin P h b c.argTypes.toList (evs n fr c.args.toList) | _ => none
def rdOp (op : Op) : Option V :=
  match op with
  | .move x => some (ev n fr x)
  | .assign x => some (ev n fr x)
  | .pick c a b => rPick n fr c a b
  | .build t ps => buildV P t n ps.toList fr
  | .load t a => loadV P t h (ev n fr a)
  | .nilCheck x => rNil n fr x
  | .binOp op t x y _ => binV P op t (ev n fr x) (ev n fr y)
  | .unOp op _ x => unV op (ev n fr x)
  | .convert s d x => convV P s d (ev n fr x) h
  | .makeInterface t x => rIface P n fr t x
  | .makeFunc (.func f) a b => some (.fn f (evs n fr a.toList) (evs n fr b.toList))
  | .slice t x lo hi mx => br (or (isNone mx) (not (isNone hi))) (sliceV P t n fr (ev n fr x) lo hi mx) none
  | .fieldAddr s x f => rFieldAddr P n fr s x f
  | .field t x f => rField P n fr t x f
  | .indexAddr t x i => indexAddrV P t (ev n fr x) (ev n fr i)
  | .index t x i => indexV P t (ev n fr x) (ev n fr i)
  | .lookup t m k ok => rLookup P n fr h t m k ok
  | .typeAssert x _ t ok => rAssert P n fr x t ok
  | .extract x i => rExtract n fr x i
  | .call c => rCall P n fr h c
  | _ => none
/-- the object, and what is said of its number -/
def alOp (op : Op) : Option (Obj × (Nat → V)) :=
  match op with
  | .alloc t => ob (zero P t) fun l => ob (row (lenL l) l) fun o => some (o, fun id => .ptr id 0)
  | .box _ x => br (ev n fr x).known (ob (row (lenL (ev n fr x).cells) (ev n fr x).cells) fun o => some (o, fun id => .ptr id 0)) none
  | .buildSlice t len ps => ob (elemOf P t) fun e => ob (szOf P e) fun sz => ob (zero P e) fun z => ob (fillV (fun i => some (Nat.mul i sz, sz)) (partsV n fr ps.toList) (rep z len)) fun l =>
      ob (row (Nat.mul len sz) l) fun o => some (o, fun id => .sl id 0 len len sz true)
  | .makeMap _ none => some (.map [] 0, fun id => .map id)
  | .makeSlice t l c => ob (elemOf P t) fun e => ob (P.info? e) fun i => ob (szOf P e) fun sz => ob (zero P e) fun z => ob (asN (ev n fr l)) fun l => ob (asN (ev n fr c)) fun c =>
      br (and (Nat.ble l c) (and (Nat.ble c 1048576) (Nat.ble i.bytes 65536))) (ob (row (Nat.mul c sz) (rep z c)) fun o => some (o, fun id => .sl id 0 l c sz true)) none
  | .convert s d x => ob (und P s) fun _ => ob (elemOf P d) fun e => br (isU8 P e) (match ev n fr x with | .str len code => ob (row len (bytesV len code)) fun o => some (o, fun id => .sl id 0 len len 1 false) | _ => none) none
  | .range t x => (match ev n fr x with | .str l c => ob (und P t) fun d => (match d with | .string => some (.siter l c 0, fun id => .ptr id 0) | _ => none) | _ => none)
  | _ => none
end
section
variable (E : Env) (call : Call) (n : Sz) (fr : Fr) (h : Hp)
def callV (g : V) (args : List V) : O :=
  match g with
  | .fn f first cap => call f (app first (app args cap)) h
  | _ => .bad
def hUpdate (t : Nat) (m k x : Operand) : O :=
  oo (und E.P t) fun d => match d with
  | .map kt _ => br (keyOk E.P kt (ev n fr k)) (match ev n fr m with
    | .map id => @Obj.rec (fun _ => O) .bad (fun _ _ => .bad) (fun _ _ => .bad) (fun es c => oo (setK (ev n fr k) (ev n fr x) c es) fun r => .val V.undef (h.put id (.map r.2 (br r.1 c (Nat.succ c))))) (fun _ _ _ => .bad) (h.at id)
    | _ => .bad) .bad
  | _ => .bad
def hNext (it : Operand) (s : Bool) : O :=
  match ev n fr it, s with
  | .ptr id 0, true => @Obj.rec (fun _ => O) .bad (fun _ _ => .bad) (fun _ _ => .bad) (fun _ _ => .bad) (fun l c p =>
      br (lt p l) (num (Nat.mod (Nat.div c (Nat.pow 256 (Nat.sub l (Nat.succ p)))) 256) fun b =>
        br (lt b 128) (num (Nat.succ p) fun q => .val (.tup [.bool true, .int .i64 (.ofNat p), .int .i32 (.ofNat b)]) (h.put id (.siter l c q))) .bad)
      (.val (.tup [.bool false]) h)) (h.at id)
  | _, _ => .bad
def hBuiltin (b : Builtin) (ts : List Nat) (xs : List V) : O :=
  match b, ts, xs with
  | .append, t :: t2 :: _, [s, x] => oo (isIntT E.P t2) fun b => br b .bad (oo (elemOf E.P t) fun e => oo (szOf E.P e) fun es => oo (srcV es x h) fun r => appendV E.P e es s r.1 r.2 h)
  | .copy, t :: _, [d, x] => oo (elemOf E.P t) fun e => oo (szOf E.P e) fun es => copyV es d x h
  | _, _, _ => .bad
def hdOp (op : Op) : O :=
  match op with
  | .store t a x => oo (storeV E.P t h (ev n fr a) (ev n fr x)) fun h => .val V.undef h
  | .mapUpdate t m k x => hUpdate E n fr h t m k x
  | .insert t m k x => hUpdate E n fr h t m k x
  | .next it s => hNext n fr h it s
  | .call c => (match c.callee with
    | .value g => callV call h (ev n fr g) (evs n fr c.args.toList)
    | .builtin b => hBuiltin E h b c.argTypes.toList (evs n fr c.args.toList)
    | .invoke _ _ => .bad)
  | _ => .bad
end
/-- 0: only reads; 1: makes one object; 2: does more -/
def cls (P : Program) (op : Op) : Nat :=
  match op with
  | .alloc _ => 1
  | .box _ _ => 1
  | .buildSlice _ _ _ => 1
  | .makeMap _ _ => 1
  | .makeSlice _ _ _ => 1
  | .range _ _ => 1
  | .convert s d _ => br (convAl P s d) 1 0
  | .store _ _ _ => 2
  | .mapUpdate _ _ _ _ => 2
  | .insert _ _ _ _ => 2
  | .next _ _ => 2
  | .call c => (match c.callee with | .builtin b => (match b with | .len => 0 | .max => 0 | .min => 0 | _ => 2) | _ => 2)
  | _ => 0
def newAl (o : Option (Obj × (Nat → V))) (h : Hp) : O := oo o fun p => h.new p.1 fun id h => .val (p.2 id) h
def xOp (E : Env) (call : Call) (n : Sz) (op : Op) (fr : Fr) (h : Hp) : O :=
  @Nat.rec (fun _ => O) (val (rdOp E.P n fr h op) h) (fun m _ => @Nat.rec (fun _ => O) (newAl (alOp E.P n fr op) h) (fun _ _ => hdOp E call n fr h op) m) (cls E.P op)

/-! Exits. -/
inductive R where
  | norm (fr : Fr) (h : Hp)
  | exit (id : Nat) (fr : Fr) (h : Hp)
  | ret (fr : Fr) (h : Hp)
  | pan (v : V) (fr : Fr) (h : Hp)
  | bad

/-! Code. -/
def putF (n : Sz) (d : Option Nat) (v : V) (fr : Fr) : Fr := @Option.rec Nat (fun _ => Fr) fr (fun d => br (lt d n.n) (set3 fr d v) fr) d
/-- is the operation wanted? -/
def wantE (n : Sz) (ops : List Oper) (g : Option (Nat × Bool)) (fr : Fr) : Option Bool :=
  @Option.rec (Nat × Bool) (fun _ => Option Bool) (some true) (fun g =>
    ob (nth ops g.1) fun o => ob o.dst fun t => br (lt t n.n) (match get3 fr t with | .bool b => some (br b g.2 (not g.2)) | .tup _ => some false | _ => none) none) g
def stepO (E : Env) (call : Call) (n : Sz) (ops : List Oper) (o : Oper) (k : Fr → Hp → R) (fr : Fr) (h : Hp) : R :=
  @Option.rec Bool (fun _ => R) .bad (fun b => br b
    (@O.rec (fun _ => R) (fun v h => k (putF n o.dst v fr) h) (fun v h => .pan v fr h) .bad (xOp E call n o.op fr h))
    (k (putF n o.dst V.undef fr) h)) (wantE n ops o.guard fr)
def runL (E : Env) (call : Call) (n : Sz) (ops : List Oper) (l : List Oper) : Fr → Hp → R :=
  @List.rec Oper (fun _ => Fr → Hp → R) (fun fr h => .norm fr h) (fun o _ ih => stepO E call n ops o ih) l
def andThen (r : R) (k : Fr → Hp → R) : R := @R.rec (fun _ => R) k .exit .ret .pan .bad r
def inBlock (id : Nat) (r : R) : R := @R.rec (fun _ => R) .norm (fun i fr h => br (Nat.beq i id) (.norm fr h) (.exit i fr h)) .ret .pan .bad r
/-- 2 ^ n rounds -/
def it (f : Fr → Hp → R) (n : Nat) : Fr → Hp → R := @Nat.rec (fun _ => Fr → Hp → R) f (fun _ ih fr h => andThen (ih fr h) ih) n
def geo (f : Fr → Hp → R) (l : List Nat) : Fr → Hp → R := @List.rec Nat (fun _ => Fr → Hp → R) (fun _ _ => .bad) (fun n _ ih fr h => andThen (it f n fr h) ih) l
def levels : List Nat := [0, 1, 2, 3, 4, 5, 6, 7, 8, 9, 10, 11, 12, 13, 14, 15, 16]
def condR (v : V) (a b : Fr → Hp → R) (fr : Fr) (h : Hp) : R := match v with | .bool t => br t (a fr h) (b fr h) | _ => .bad
end Go.Eng
