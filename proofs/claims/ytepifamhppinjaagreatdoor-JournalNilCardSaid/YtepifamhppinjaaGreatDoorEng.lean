import Derived.Calls
/- The engine: an interpreter of the model's code over a heap of its own. -/
noncomputable section
namespace Go.Eng

/-! Tries of eight-fold nodes. -/
inductive D8 where
  | d0 | d1 | d2 | d3 | d4 | d5 | d6 | d7
  deriving DecidableEq

structure N8 (α : Type) where
  c0 : α
  c1 : α
  c2 : α
  c3 : α
  c4 : α
  c5 : α
  c6 : α
  c7 : α

namespace N8
variable {α : Type}
def rep (a : α) : N8 α := ⟨a, a, a, a, a, a, a, a⟩
def u0 (n : N8 α) (f : α → α) : N8 α := @N8.rec α (fun _ => N8 α) (fun a b c d e g h i => ⟨f a, b, c, d, e, g, h, i⟩) n
def u1 (n : N8 α) (f : α → α) : N8 α := @N8.rec α (fun _ => N8 α) (fun a b c d e g h i => ⟨a, f b, c, d, e, g, h, i⟩) n
def u2 (n : N8 α) (f : α → α) : N8 α := @N8.rec α (fun _ => N8 α) (fun a b c d e g h i => ⟨a, b, f c, d, e, g, h, i⟩) n
def u3 (n : N8 α) (f : α → α) : N8 α := @N8.rec α (fun _ => N8 α) (fun a b c d e g h i => ⟨a, b, c, f d, e, g, h, i⟩) n
def u4 (n : N8 α) (f : α → α) : N8 α := @N8.rec α (fun _ => N8 α) (fun a b c d e g h i => ⟨a, b, c, d, f e, g, h, i⟩) n
def u5 (n : N8 α) (f : α → α) : N8 α := @N8.rec α (fun _ => N8 α) (fun a b c d e g h i => ⟨a, b, c, d, e, f g, h, i⟩) n
def u6 (n : N8 α) (f : α → α) : N8 α := @N8.rec α (fun _ => N8 α) (fun a b c d e g h i => ⟨a, b, c, d, e, g, f h, i⟩) n
def u7 (n : N8 α) (f : α → α) : N8 α := @N8.rec α (fun _ => N8 α) (fun a b c d e g h i => ⟨a, b, c, d, e, g, h, f i⟩) n
def sel (d : D8) : N8 α → α := @D8.rec (fun _ => N8 α → α) c0 c1 c2 c3 c4 c5 c6 c7 d
def upd (d : D8) : N8 α → (α → α) → N8 α := @D8.rec (fun _ => N8 α → (α → α) → N8 α) u0 u1 u2 u3 u4 u5 u6 u7 d
end N8

/-- the digit of a number below eight -/
def dig (n : Nat) : D8 :=
  @Nat.rec (fun _ => D8) .d0 (fun n _ => @Nat.rec (fun _ => D8) .d1 (fun n _ => @Nat.rec (fun _ => D8) .d2 (fun n _ => @Nat.rec (fun _ => D8) .d3
    (fun n _ => @Nat.rec (fun _ => D8) .d4 (fun n _ => @Nat.rec (fun _ => D8) .d5 (fun n _ => @Nat.rec (fun _ => D8) .d6 (fun _ _ => .d7) n) n) n) n) n) n) n

structure K2 where
  a : D8
  b : D8
structure K3 where
  a : D8
  b : D8
  c : D8
structure K6 where
  a : D8
  b : D8
  c : D8
  d : D8
  e : D8
  f : D8
def k2 (n : Nat) : K2 := ⟨dig (Nat.mod (Nat.div n 8) 8), dig (Nat.mod n 8)⟩
def k3 (n : Nat) : K3 := ⟨dig (Nat.mod (Nat.div n 64) 8), dig (Nat.mod (Nat.div n 8) 8), dig (Nat.mod n 8)⟩
def k6 (n : Nat) : K6 :=
  ⟨dig (Nat.mod (Nat.div n 32768) 8), dig (Nat.mod (Nat.div n 4096) 8), dig (Nat.mod (Nat.div n 512) 8), dig (Nat.mod (Nat.div n 64) 8), dig (Nat.mod (Nat.div n 8) 8), dig (Nat.mod n 8)⟩

abbrev T1 (α : Type) := N8 α
abbrev T2 (α : Type) := N8 (T1 α)
abbrev T3 (α : Type) := N8 (T2 α)
abbrev T4 (α : Type) := N8 (T3 α)
abbrev T6 (α : Type) := N8 (N8 (T4 α))
section
variable {α : Type}
def get2 (t : T2 α) (n : Nat) : α := @K2.rec (fun _ => α) (fun a b => N8.sel b (N8.sel a t)) (k2 n)
def get3 (t : T3 α) (n : Nat) : α := @K3.rec (fun _ => α) (fun a b c => N8.sel c (N8.sel b (N8.sel a t))) (k3 n)
def get4 (t : T4 α) (n : Nat) : α := @K6.rec (fun _ => α) (fun _ _ c d e f => N8.sel f (N8.sel e (N8.sel d (N8.sel c t)))) (k6 n)
def get6 (t : T6 α) (n : Nat) : α := @K6.rec (fun _ => α) (fun a b c d e f => N8.sel f (N8.sel e (N8.sel d (N8.sel c (N8.sel b (N8.sel a t)))))) (k6 n)
def set2 (t : T2 α) (n : Nat) (v : α) : T2 α := @K2.rec (fun _ => T2 α) (fun a b => N8.upd a t fun t => N8.upd b t fun _ => v) (k2 n)
def set3 (t : T3 α) (n : Nat) (v : α) : T3 α := @K3.rec (fun _ => T3 α) (fun a b c => N8.upd a t fun t => N8.upd b t fun t => N8.upd c t fun _ => v) (k3 n)
def set4 (t : T4 α) (n : Nat) (v : α) : T4 α := @K6.rec (fun _ => T4 α) (fun _ _ c d e f => N8.upd c t fun t => N8.upd d t fun t => N8.upd e t fun t => N8.upd f t fun _ => v) (k6 n)
def set6 (t : T6 α) (n : Nat) (v : α) : T6 α := @K6.rec (fun _ => T6 α) (fun a b c d e f => N8.upd a t fun t => N8.upd b t fun t => N8.upd c t fun t => N8.upd d t fun t => N8.upd e t fun t => N8.upd f t fun _ => v) (k6 n)
end

/-! Small words. -/
def ob {α β : Type} (o : Option α) (f : α → Option β) : Option β := @Option.rec α (fun _ => Option β) none f o
def br {α : Type} (b : Bool) (t e : α) : α := @Bool.rec (fun _ => α) e t b
/-- a number is brought to a numeral before it goes on -/
def num {α : Type} (n : Nat) (k : Nat → α) : α := @Nat.rec (fun _ => α) (k 0) (fun m _ => k (Nat.succ m)) n
def lt (a b : Nat) : Bool := Nat.ble (Nat.succ a) b

/-! Values. -/
inductive V where
  | unk
  | bool (b : Bool)
  | int (k : IntKind) (n : Int)
  | str (len code : Nat)
  | ptr (id off : Nat)
  | nilp
  | sl (id off len cap es : Nat) (exact : Bool)
  | nils
  | sl0
  | map (id : Nat)
  | nilmap
  | fn (f : Nat) (first cap : List V)
  | nilfn
  | iface (t : Nat) (v : V)
  | nili
  | agg (l : List V)
  | tup (l : List V)

/-- the cells of a row -/
inductive AT where
  | l (l : List V)
  | t2 (t : T2 V)
  | t3 (t : T3 V)
  | t4 (t : T4 V)

inductive Obj where
  | none
  | arr (n : Nat) (a : AT)
  | ro (n : Nat) (a : AT)
  | map (es : List (V × V × Nat)) (clock : Nat)
  | siter (len code pos : Nat)

structure Hp where
  next : Nat
  t : T6 Obj

abbrev Fr := T3 V

def V.undef : V := .tup []
def F0 : Fr := N8.rep (N8.rep (N8.rep V.undef))
def H0 : T6 Obj := N8.rep (N8.rep (N8.rep (N8.rep (N8.rep (N8.rep Obj.none)))))

/-- the number that bytes spell -/
def encL (l : List UInt8) : Nat → Nat := @List.rec UInt8 (fun _ => Nat → Nat) (fun a => a) (fun b _ ih a => num (Nat.add (Nat.mul a 256) b.toNat) ih) l
def enc (s : ByteArray) : Nat := encL s.data.toList 0
def lenL {α : Type} (l : List α) : Nat := @List.rec α (fun _ => Nat) 0 (fun _ _ ih => Nat.succ ih) l

/-- a constant, or a zero value -/
def ofV1 : Value → V
  | .bool b => .bool b
  | .int k n => .int k n
  | .string s => .str (lenL s.data.toList) (enc s)
  | .pointer none => .nilp
  | .slice none 0 0 => .nils
  | .map none => .nilmap
  | .nilFunc => .nilfn
  | .nilIface => .nili
  | _ => .unk
def ofVs (l : List Value) : List V := @List.rec Value (fun _ => List V) [] (fun v _ ih => ofV1 v :: ih) l
def ofValue : Value → V
  | .agg cs => .agg (ofVs cs.toList)
  | .tuple cs => .tup (ofVs cs.toList)
  | v => ofV1 v

/-- how many slots a frame has; how many variables the program has -/
structure Sz where
  n : Nat
  g : Nat
/-- an operand's value in a frame -/
def ev (n : Sz) (fr : Fr) (x : Operand) : V :=
  @Operand.rec (fun _ => V) (fun t => br (lt t n.n) (get3 fr t) V.undef) ofValue (fun g => br (lt g n.g) (.ptr g 0) .unk) (fun f => .fn f [] []) x
def evs (n : Sz) (fr : Fr) (xs : List Operand) : List V := @List.rec Operand (fun _ => List V) [] (fun x _ ih => ev n fr x :: ih) xs

def V.cells (v : V) : List V := match v with | .agg l => l | v => [v]
def V.known (v : V) : Bool := match v with | .unk => false | _ => true
/-- is known to be the value of one cell -/
def V.one (v : V) : Bool := match v with | .unk => false | .agg _ => false | .tup _ => false | _ => true
def allOne (l : List V) : Bool := @List.rec V (fun _ => Bool) true (fun v _ ih => br v.one ih false) l

/-! Rows of cells. -/
def nth {α : Type} (l : List α) : Nat → Option α :=
  @List.rec α (fun _ => Nat → Option α) (fun _ => none) (fun a _ ih n => @Nat.rec (fun _ => Option α) (some a) (fun m _ => ih m) n) l
def nthD (l : List V) (n : Nat) : V := @Option.rec V (fun _ => V) V.unk (fun v => v) (nth l n)
def setNth (l : List V) : Nat → V → List V :=
  @List.rec V (fun _ => Nat → V → List V) (fun _ _ => []) (fun a l ih n v => @Nat.rec (fun _ => List V) (v :: l) (fun m _ => a :: ih m v) n) l
def AT.get (a : AT) (i : Nat) : V := @AT.rec (fun _ => Nat → V) nthD get2 get3 get4 a i
def AT.set (a : AT) (i : Nat) (v : V) : AT :=
  @AT.rec (fun _ => Nat → V → AT) (fun l i v => .l (setNth l i v)) (fun t i v => .t2 (set2 t i v)) (fun t i v => .t3 (set3 t i v)) (fun t i v => .t4 (set4 t i v)) a i v
/-- so many cells from a place on -/
def AT.cells (a : AT) (n : Nat) : Nat → List V := @Nat.rec (fun _ => Nat → List V) (fun _ => []) (fun _ ih i => num (Nat.succ i) fun i' => a.get i :: ih i') n
def AT.puts (l : List V) : AT → Nat → AT := @List.rec V (fun _ => AT → Nat → AT) (fun a _ => a) (fun v _ ih a i => num (Nat.succ i) fun i' => ih (a.set i v) i') l
def E1 : T1 V := N8.rep V.unk
def E2 : T2 V := N8.rep E1
def E3 : T3 V := N8.rep E2
def E4 : T4 V := N8.rep E3
def app {α : Type} (l m : List α) : List α := @List.rec α (fun _ => List α) m (fun a _ ih => a :: ih) l
/-- an empty row with room for so many -/
def AT.room (n : Nat) : AT := br (Nat.ble n 64) (.t2 E2) (br (Nat.ble n 512) (.t3 E3) (.t4 E4))
/-- how many cells there is room for -/
def AT.cap (a : AT) : Nat := @AT.rec (fun _ => Nat) lenL (fun _ => 64) (fun _ => 512) (fun _ => 4096) a
def AT.ofList (n : Nat) (l : List V) : AT := br (Nat.ble n 8) (.l l) (AT.puts l (AT.room n) 0)
def AT.grow2 (t : T2 V) (k : Nat) : AT := br (Nat.ble k 64) (.t2 t) (br (Nat.ble k 512) (.t3 ⟨t, E2, E2, E2, E2, E2, E2, E2⟩) (.t4 ⟨⟨t, E2, E2, E2, E2, E2, E2, E2⟩, E3, E3, E3, E3, E3, E3, E3⟩))
def AT.grow3 (t : T3 V) (k : Nat) : AT := br (Nat.ble k 512) (.t3 t) (.t4 ⟨t, E3, E3, E3, E3, E3, E3, E3⟩)
/-- n cells, m more behind them -/
def AT.push (a : AT) (n m : Nat) (l : List V) : AT :=
  @AT.rec (fun _ => AT) (fun old => AT.ofList (Nat.add n m) (app ((AT.l old).cells n 0) l))
    (fun t => AT.puts l (AT.grow2 t (Nat.add n m)) n) (fun t => AT.puts l (AT.grow3 t (Nat.add n m)) n) (fun t => AT.puts l (.t4 t) n) a

/-! The heap. -/
inductive O where
  | val (v : V) (h : Hp)
  | pan (v : V) (h : Hp)
  | bad
def oo {α : Type} (o : Option α) (f : α → O) : O := @Option.rec α (fun _ => O) .bad f o
def Hp.at (h : Hp) (id : Nat) : Obj := @Hp.rec (fun _ => Obj) (fun _ t => get6 t id) h
def Hp.put (h : Hp) (id : Nat) (o : Obj) : Hp := @Hp.rec (fun _ => Hp) (fun n t => ⟨n, set6 t id o⟩) h
def Hp.new (h : Hp) (o : Obj) (k : Nat → Hp → O) : O :=
  @Hp.rec (fun _ => O) (fun n t => num n fun n => br (lt n 262144) (k n ⟨Nat.succ n, set6 t n o⟩) .bad) h
def Hp.cells (h : Hp) (id off n : Nat) : Option (List V) :=
  @Obj.rec (fun _ => Option (List V)) none (fun len a => br (Nat.ble (Nat.add off n) len) (some (a.cells n off)) none)
    (fun len a => br (Nat.ble (Nat.add off n) len) (some (a.cells n off)) none) (fun _ _ => none) (fun _ _ _ => none) (h.at id)
def Hp.cell (h : Hp) (id off : Nat) : Option V :=
  @Obj.rec (fun _ => Option V) none (fun len a => br (lt off len) (some (a.get off)) none) (fun len a => br (lt off len) (some (a.get off)) none) (fun _ _ => none) (fun _ _ _ => none) (h.at id)
/-- cells are stored; they are known to be cells' values -/
def Hp.store (h : Hp) (id off : Nat) (l : List V) : Option Hp :=
  @Obj.rec (fun _ => Option Hp) none (fun len a => br (and (Nat.ble (Nat.add off (lenL l)) len) (allOne l)) (some (h.put id (.arr len (AT.puts l a off)))) none)
    (fun _ _ => none) (fun _ _ => none) (fun _ _ _ => none) (h.at id)

/-! Numbers. -/
def kmax (k : IntKind) : Nat := @IntKind.rec (fun _ => Nat) 127 32767 2147483647 9223372036854775807 255 65535 4294967295 18446744073709551615 k
def kmod (k : IntKind) : Nat := @IntKind.rec (fun _ => Nat) 256 65536 4294967296 18446744073709551616 256 65536 4294967296 18446744073709551616 k
/-- wrap, quick for what fits -/
def wrapI (k : IntKind) (n : Int) : V :=
  @Int.rec (fun _ => V) (fun m => num m fun m => br (Nat.ble m (kmax k)) (.int k (.ofNat m)) (num (Nat.mod m (kmod k)) fun r => br (Nat.ble r (kmax k)) (.int k (.ofNat r)) (num (Nat.sub (Nat.sub (kmod k) r) 1) fun s => .int k (.negSucc s))))
    (fun m => .int k (k.wrap (.negSucc m))) n
def ikEq (a b : IntKind) : Bool := Nat.beq a.ctorIdx b.ctorIdx
def intEq (a b : Int) : Bool :=
  @Int.rec (fun _ => Bool) (fun m => @Int.rec (fun _ => Bool) (fun n => Nat.beq m n) (fun _ => false) b) (fun m => @Int.rec (fun _ => Bool) (fun _ => false) (fun n => Nat.beq m n) b) a
def intLe (a b : Int) : Bool :=
  @Int.rec (fun _ => Bool) (fun m => @Int.rec (fun _ => Bool) (fun n => Nat.ble m n) (fun _ => false) b) (fun m => @Int.rec (fun _ => Bool) (fun _ => true) (fun n => Nat.ble n m) b) a
def nats (a b : Int) (f : Nat → Nat → Option V) : Option V :=
  @Int.rec (fun _ => Option V) (fun m => @Int.rec (fun _ => Option V) (fun n => f m n) (fun _ => none) b) (fun _ => none) a
def sBool (b : Bool) : Option V := some (.bool b)
def bits (k : IntKind) (a b : Int) (f : Nat → Nat → Nat) : Option V :=
  nats a b fun m n => br (and (lt m (kmod k)) (lt n (kmod k))) (some (wrapI k (.ofNat (f m n)))) none
def opInt (op : BinOp) (k : IntKind) (a b : Int) : Option V :=
  @BinOp.rec (fun _ => IntKind → Int → Int → Option V)
    (fun k a b => some (wrapI k (Int.add a b))) (fun k a b => some (wrapI k (Int.sub a b))) (fun k a b => some (wrapI k (Int.mul a b)))
    (fun k a b => nats a b fun m n => br (Nat.beq n 0) none (some (wrapI k (.ofNat (Nat.div m n)))))
    (fun k a b => nats a b fun m n => br (Nat.beq n 0) none (num (Nat.mod m n) fun r => some (.int k (.ofNat r))))
    (fun k a b => bits k a b Nat.land) (fun k a b => bits k a b Nat.lor) (fun k a b => bits k a b Nat.xor)
    (fun _ _ _ => none) (fun _ _ _ => none) (fun _ _ _ => none)
    (fun _ a b => sBool (intEq a b)) (fun _ a b => sBool (not (intEq a b))) (fun _ a b => sBool (not (intLe b a))) (fun _ a b => sBool (intLe a b))
    (fun _ a b => sBool (not (intLe a b))) (fun _ a b => sBool (intLe b a)) op k a b
def opShift (op : BinOp) (k : IntKind) (a b : Int) : Option V :=
  nats a b fun m n => br (lt n 8)
    (@BinOp.rec (fun _ => Option V) none none none none none none none none (some (wrapI k (.ofNat (Nat.mul m (Nat.pow 2 n))))) (num (Nat.div m (Nat.pow 2 n)) fun r => some (.int k (.ofNat r))) none none none none none none none op)
    (br (lt n (kbits k)) (@BinOp.rec (fun _ => Option V) none none none none none none none none (some (wrapI k (.ofNat (Nat.mul m (Nat.pow 2 n))))) (num (Nat.div m (Nat.pow 2 n)) fun r => some (.int k (.ofNat r))) none none none none none none none op) none)
  where kbits (k : IntKind) : Nat := @IntKind.rec (fun _ => Nat) 8 16 32 64 8 16 32 64 k
def strLt (l c m d : Nat) : Bool :=
  br (lt (Nat.mul c (Nat.pow 256 (Nat.sub m l))) (Nat.mul d (Nat.pow 256 (Nat.sub l m)))) true
    (br (Nat.beq (Nat.mul c (Nat.pow 256 (Nat.sub m l))) (Nat.mul d (Nat.pow 256 (Nat.sub l m)))) (lt l m) false)
def strEq (l c m d : Nat) : Bool := and (Nat.beq l m) (Nat.beq c d)
def opStr (op : BinOp) (l c m d : Nat) : Option V :=
  @BinOp.rec (fun _ => Option V) (num (Nat.add l m) fun n => num (Nat.add (Nat.mul c (Nat.pow 256 m)) d) fun x => br (Nat.ble n 1099511627776) (some (.str n x)) none) none none none none none none none none none none
    (sBool (strEq l c m d)) (sBool (not (strEq l c m d))) (sBool (strLt l c m d)) (sBool (not (strLt m d l c))) (sBool (strLt m d l c)) (sBool (not (strLt l c m d))) op
end Go.Eng
