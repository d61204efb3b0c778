/- The executor: what a function of the program does on data that are known, computed in Lean. Definitions alone. -/
import Derived.Calls
import Derived.Orders
set_option linter.unusedVariables false
set_option linter.unusedSimpArgs false
namespace Go.Exe

/-- A tree that is looked into by numbers. -/
inductive Tr (α : Type) where
  | nil
  | node (l : Tr α) (v : Option α) (r : Tr α)

def Tr.get {α : Type} : Tr α → Nat → Option α
  | .nil, _ => none
  | .node l v r, n => match n with
    | 0 => v
    | m + 1 => match m % 2 with
      | 0 => l.get (m / 2)
      | _ + 1 => r.get (m / 2)

def Tr.put {α : Type} : Nat → Tr α → Nat → Option α → Tr α
  | 0, t, _, _ => t
  | f + 1, t, n, x =>
    match t with
    | .nil => match n with
      | 0 => .node .nil x .nil
      | m + 1 => match m % 2 with
        | 0 => .node (Tr.put f .nil (m / 2) x) none .nil
        | _ + 1 => .node .nil none (Tr.put f .nil (m / 2) x)
    | .node l v r => match n with
      | 0 => .node l x r
      | m + 1 => match m % 2 with
        | 0 => .node (Tr.put f l (m / 2) x) v r
        | _ + 1 => .node l v (Tr.put f r (m / 2) x)

/-- Data of the program, blocks by names. A slice: where it begins, its length, how much room is known behind it, and (none: the room is known) the number of what more there may be. -/
inductive AV where
  | bool (b : Bool)
  | int (k : IntKind) (n : Int)
  | str (s : List Nat)
  | ptr (a : Option (Nat × Nat))
  | slice (a : Option (Nat × Nat)) (len room : Nat) (more : Option Nat)
  | map (r : Option Nat)
  | func (fn : Fn) (first captured : List AV)
  | nilFunc
  | iface (t : TypeId) (v : AV)
  | nilIface
  | agg (cells : List AV)
  | tuple (vs : List AV)

/-- `.func (.yield t) fs []` stands for an open value: that with the number t, of which the facts fs are known; `.func (.yield n) [] [.nilFunc]` for some text of at most n bytes; `.func (.yield n) [] [.nilFunc, .tuple ps]` for the text of n bytes that the pieces ps make (known ones and open ones). No other function has a yield. -/
def plainFn : Fn → Bool
  | .yield _ => false
  | _ => true

def AV.cells : AV → List AV
  | .agg cs => cs
  | v => [v]

def undefA : AV := .tuple []

def AV.one : AV → Bool
  | .agg _ => false
  | .tuple _ => false
  | _ => true

def allOne : List AV → Bool
  | [] => true
  | v :: vs => match v.one with
    | true => allOne vs
    | false => false

inductive AObj where
  | cells (cs : List AV) (elem : TypeId) (more : Option (Nat × Nat))
  | map (es : List (AV × AV × Nat)) (clock : Nat)
  /-- Bytes that a string shares: they are read alone. -/
  | stiff (cs : List AV) (elem : TypeId)
  /-- A map whose entries are these, in whatever order they came: it is read alone. -/
  | look (es : List (AV × AV × Nat))

/-- A field: where it lies, its type, that type's size, whether it is made of cells, whether it is compared. -/
structure FI where
  off : Nat
  ty : TypeId
  size : Nat
  agg : Bool
  cmp : Bool

inductive Kd where
  | bool | int (k : IntKind) | str | ptr (e : TypeId) | slice (e : TypeId) | map (k e : TypeId) | array (len : Nat) (e : TypeId) | struct (fs : List FI) | iface | func | tuple | other

structure TI where
  kd : Kd
  size : Nat
  bytes : Nat
  zero : List AV
  hid : Bool := false

structure St where
  heap : Tr AObj
  next : Nat
  syms : Nat
  ver : Nat

def listGet {α : Type} : List α → Nat → Option α
  | [], _ => none
  | x :: xs, n => match n with
    | 0 => some x
    | m + 1 => listGet xs m

/-- n cells from a place on; none: not so many. -/
def take {α : Type} : List α → Nat → Option (List α)
  | _, 0 => some []
  | [], _ + 1 => none
  | x :: xs, n + 1 => match take xs n with
    | some l => some (x :: l)
    | none => none

def drop {α : Type} : List α → Nat → List α
  | l, 0 => l
  | [], _ + 1 => []
  | _ :: xs, n + 1 => drop xs n

def cut {α : Type} (l : List α) (o n : Nat) : Option (List α) := take (drop l o) n

/-- Cells put over those from a place on; none: there is not so much room. -/
def over {α : Type} : List α → List α → Option (List α)
  | cs, [] => some cs
  | [], _ :: _ => none
  | _ :: cs, v :: vs => match over cs vs with
    | some l => some (v :: l)
    | none => none

def lay {α : Type} : List α → Nat → List α → Option (List α)
  | cs, 0, vs => over cs vs
  | [], _ + 1, _ => none
  | c :: cs, o + 1, vs => match lay cs o vs with
    | some l => some (c :: l)
    | none => none

def repA {α : Type} (l : List α) : Nat → List α
  | 0 => []
  | n + 1 => l ++ repA l n

/-- A value of the text that names no place. -/
def absL (f : Value → Option AV) : List Value → Option (List AV)
  | [] => some []
  | v :: vs => match f v with
    | none => none
    | some x => match absL f vs with
      | some l => some (x :: l)
      | none => none

def absV : Nat → Value → Option AV
  | _, .bool b => some (.bool b)
  | _, .int k n => some (.int k n)
  | _, .string s => some (.str (s.data.toList.map UInt8.toNat))
  | _, .pointer none => some (.ptr none)
  | _, .slice none len cap => match Nat.ble len cap with
    | true => some (.slice none len (cap - len) none)
    | false => none
  | _, .map none => some (.map none)
  | _, .nilFunc => some .nilFunc
  | _, .nilIface => some .nilIface
  | f + 1, .agg cs => match absL (absV f) cs.toList with
    | some l => some (.agg l)
    | none => none
  | f + 1, .tuple cs => match absL (absV f) cs.toList with
    | some l => some (.tuple l)
    | none => none
  | _, _ => none

def ev (T : Tr AV) : Operand → Option AV
  | .tmp t => match T.get t with
    | some v => some v
    | none => some undefA
  | .const v => absV 4 v
  | .global g => match Nat.ble 64 g with
    | true => none
    | false => some (.ptr (some (g, 0)))
  | .func f => some (.func (.func f) [] [])

def evs (T : Tr AV) : List Operand → Option (List AV)
  | [] => some []
  | o :: os => match ev T o with
    | none => none
    | some x => match evs T os with
      | some l => some (x :: l)
      | none => none

/-- One value or a struct out of cells. -/
def partA (agg : Bool) (size : Nat) (cs : List AV) (off : Nat) : Option AV :=
  match agg with
  | true => match cut cs off size with
    | some l => some (.agg l)
    | none => none
  | false => listGet cs off

def Kd.isAgg : Kd → Bool
  | .struct _ => true
  | .array _ _ => true
  | _ => false

def fillA (fs : List FI) (T : Tr AV) (cs : List AV) : List (Nat × Operand) → Option (List AV)
  | [] => some cs
  | (i, x) :: rest =>
    match listGet fs i, ev T x with
    | some f, some v =>
      let vc := v.cells
      match Nat.beq vc.length f.size with
      | true => match lay cs f.off vc with
        | some cs => fillA fs T cs rest
        | none => none
      | false => none
    | _, _ => none

def fillS (size : Nat) (T : Tr AV) (cs : List AV) : List (Nat × Operand) → Option (List AV)
  | [] => some cs
  | (i, x) :: rest =>
    match ev T x with
    | some v =>
      let vc := v.cells
      match Nat.beq vc.length size with
      | true => match lay cs (i * size) vc with
        | some cs => fillS size T cs rest
        | none => none
      | false => none
    | _ => none

def sameStr : List Nat → List Nat → Bool
  | [], [] => true
  | a :: x, b :: y => match Nat.beq a b with
    | true => sameStr x y
    | false => false
  | _, _ => false

def lessStr : List Nat → List Nat → Bool
  | _, [] => false
  | [], _ :: _ => true
  | a :: x, b :: y => match Nat.ble (a + 1) b with
    | true => true
    | false => match Nat.beq a b with
      | true => lessStr x y
      | false => false

def ltI : Int → Int → Bool
  | .ofNat a, .ofNat b => Nat.ble (a + 1) b
  | .ofNat _, .negSucc _ => false
  | .negSucc _, .ofNat _ => true
  | .negSucc a, .negSucc b => Nat.ble (b + 1) a

def eqI : Int → Int → Bool
  | .ofNat a, .ofNat b => Nat.beq a b
  | .ofNat _, .negSucc _ => false
  | .negSucc _, .ofNat _ => false
  | .negSucc a, .negSucc b => Nat.beq a b

def addI : Int → Int → Int
  | .ofNat a, .ofNat b => .ofNat (a + b)
  | a, b => a + b

def subI : Int → Int → Int
  | .ofNat a, .ofNat b => match Nat.ble b a with
    | true => .ofNat (a - b)
    | false => .ofNat a - .ofNat b
  | a, b => a - b

def wrapA (k : IntKind) (n : Int) : Int :=
  match n with
  | .ofNat m => match Nat.ble m 127 with
    | true => .ofNat m
    | false => match k, Nat.ble m 9223372036854775807 with
      | .i64, true => .ofNat m
      | _, _ => k.wrap n
  | n => k.wrap n

def kindEq : IntKind → IntKind → Bool
  | .i64, .i64 => true
  | .u8, .u8 => true
  | a, b => decide (a = b)

/-- Field by field. -/
def sameFs (r : TypeId → AV → AV → Option Bool) (xs ys : List AV) : List FI → Option Bool
  | [] => some true
  | f :: fs => match f.cmp with
    | false => sameFs r xs ys fs
    | true => match partA f.agg f.size xs f.off, partA f.agg f.size ys f.off with
      | some u, some v => match r f.ty u v with
        | some true => sameFs r xs ys fs
        | some false => some false
        | none => none
      | _, _ => none

def plainFs (r : TypeId → AV → Bool) (xs : List AV) : List FI → Bool
  | [] => true
  | f :: fs => match f.cmp with
    | false => plainFs r xs fs
    | true => match partA f.agg f.size xs f.off with
      | some u => match r f.ty u with
        | true => plainFs r xs fs
        | false => false
      | none => false

/-- Are two values of a type the same? -/
def sameA (ty : Tr TI) : Nat → TypeId → AV → AV → Option Bool
  | 0, _, _, _ => none
  | d + 1, t, x, y =>
    match ty.get t with
    | none => none
    | some ti => match ti.kd, x, y with
      | .bool, .bool a, .bool b => some (a == b)
      | .int _, .int k a, .int k' b => match kindEq k k' with
        | true => some (eqI a b)
        | false => none
      | .str, .str a, .str b => some (sameStr a b)
      | .ptr _, .ptr none, .ptr none => some true
      | .ptr _, .ptr none, .ptr (some _) => some false
      | .ptr _, .ptr (some _), .ptr none => some false
      | .ptr e, .ptr (some (n, o)), .ptr (some (n', o')) => match ty.get e, Nat.beq n n', Nat.beq o o' with
        | some _, true, true => some true
        | _, _, _ => none
      | .iface, .nilIface, .nilIface => some true
      | .iface, .nilIface, .iface _ _ => some false
      | .iface, .iface _ _, .nilIface => some false
      | .slice _, .slice none _ _ _, .slice none _ _ _ => some true
      | .slice _, .slice none _ _ _, .slice (some _) _ _ _ => some false
      | .slice _, .slice (some _) _ _ _, .slice none _ _ _ => some false
      | .func, .nilFunc, .nilFunc => some true
      | .func, .nilFunc, .func (.func _) _ _ => some false
      | .func, .func (.func _) _ _, .nilFunc => some false
      | .map _ _, .map none, .map none => some true
      | .map _ _, .map none, .map (some _) => some false
      | .map _ _, .map (some _), .map none => some false
      | .struct fs, .agg xs, .agg ys =>
        match ti.hid with
        | true => none
        | false => sameFs (sameA ty d) xs ys fs
      | _, _, _ => none

def binA (ty : Tr TI) (op : BinOp) (t : TypeId) (x y : AV) : Option AV :=
  match x, y with
  | .int k a, .int k' b =>
    match op with
    | .shl => match ltI b 0 with
      | true => none
      | false => some (.int k (k.wrap (a * 2 ^ (min b.toNat k.bits))))
    | .shr => match ltI b 0 with
      | true => none
      | false => some (.int k (a.fdiv (2 ^ (min b.toNat k.bits))))
    | op => match kindEq k k' with
      | false => none
      | true => match op with
        | .add => some (.int k (wrapA k (addI a b)))
        | .sub => some (.int k (wrapA k (subI a b)))
        | .mul => some (.int k (wrapA k (a * b)))
        | .quo => match eqI b 0 with
          | true => none
          | false => some (.int k (k.wrap (a.tdiv b)))
        | .rem => match eqI b 0 with
          | true => none
          | false => some (.int k (a.tmod b))
        | .and => some (.int k (k.wrap ((BitVec.ofInt k.bits a &&& BitVec.ofInt k.bits b).toNat : Int)))
        | .or => some (.int k (k.wrap ((BitVec.ofInt k.bits a ||| BitVec.ofInt k.bits b).toNat : Int)))
        | .xor => some (.int k (k.wrap ((BitVec.ofInt k.bits a ^^^ BitVec.ofInt k.bits b).toNat : Int)))
        | .eql => some (.bool (eqI a b))
        | .neq => some (.bool (!eqI a b))
        | .lss => some (.bool (ltI a b))
        | .leq => some (.bool (!ltI b a))
        | .gtr => some (.bool (ltI b a))
        | .geq => some (.bool (!ltI a b))
        | _ => none
  | .str a, .str b =>
    match op with
    | .add => match Nat.ble (a.length + b.length) 1000000000 with
      | true => some (.str (a ++ b))
      | false => none
    | .eql => some (.bool (sameStr a b))
    | .neq => some (.bool (!sameStr a b))
    | .lss => some (.bool (lessStr a b))
    | _ => none
  | .nilIface, .nilIface => none
  | x, y =>
    match op with
    | .eql => match sameA ty 6 t x y with
      | some b => some (.bool b)
      | none => none
    | .neq => match sameA ty 6 t x y with
      | some b => some (.bool !b)
      | none => none
    | _ => none

def nat? : AV → Option Nat
  | .int _ (.ofNat n) => some n
  | _ => none

/-- The bounds of a slice; a bound that isn't said. -/
def bound? (T : Tr AV) (d : Nat) : Option Operand → Option Nat
  | none => some d
  | some o => match ev T o with
    | some v => nat? v
    | none => none

def bytesOf? : List AV → Option (List Nat)
  | [] => some []
  | .int .u8 (.ofNat n) :: cs => match bytesOf? cs, Nat.ble n 255 with
    | some l, true => some (n :: l)
    | _, _ => none
  | _ :: _ => none

def keyIn (ty : Tr TI) (kt : TypeId) (k : AV) : List (AV × AV × Nat) → Nat → Option (Option (Nat × AV))
  | [], _ => some none
  | (k', v, _) :: es, i => match sameA ty 6 kt k k' with
    | some true => some (some (i, v))
    | some false => keyIn ty kt k es (i + 1)
    | none => none

/-- Keys that are no interfaces and hold none. -/
def plainKey (ty : Tr TI) : Nat → TypeId → AV → Bool
  | 0, _, _ => false
  | d + 1, t, v => match ty.get t with
    | none => false
    | some ti => match ti.kd, v with
      | .int _, .int _ _ => true
      | .str, .str _ => true
      | .bool, .bool _ => true
      | .struct fs, .agg xs => plainFs (plainKey ty d) xs fs
      | _, _ => false

/-- A type's zero value. -/
def zeroOf (ti : TI) : Option AV :=
  match ti.kd.isAgg with
  | true => some (.agg ti.zero)
  | false => listGet ti.zero 0

/-- The values of the entries with that key; none: one is not decided. -/
def hits (ty : Tr TI) (kt : TypeId) (k : AV) : List (AV × AV × Nat) → Option (List AV)
  | [] => some []
  | (k', v, _) :: es => match sameA ty 6 kt k k', hits ty kt k es with
    | some true, some l => some (v :: l)
    | some false, some l => some l
    | _, _ => none

/-- What a map holds whose entries stand in no known order. -/
def lookOf (h : Tr AObj) : AV → Option (List (AV × AV × Nat))
  | .map (some r) => match h.get r with
    | some (.look es) => some es
    | _ => none
  | _ => none

/-- What a map holds. -/
def mapOf (h : Tr AObj) : AV → Option (List (AV × AV × Nat))
  | .map none => some []
  | .map (some r) => match h.get r with
    | some (.map es _) => some es
    | _ => none
  | _ => none

def okA (ok : Bool) (v : AV) (b : Bool) : AV :=
  match ok with
  | true => .tuple [v, .bool b]
  | false => v

def pupick (ty : Tr TI) (h : Tr AObj) (nm : Nat) (T : Tr AV) (c a b : Operand) : Option (AV × Option AObj) :=
  match ev T c with
    | some (.bool true) => match ev T a with
      | some v => some (v, none)
      | none => none
    | some (.bool false) => match ev T b with
      | some v => some (v, none)
      | none => none
    | _ => none

def pualloc (ty : Tr TI) (h : Tr AObj) (nm : Nat) (T : Tr AV) (e : TypeId) : Option (AV × Option AObj) :=
  match ty.get e with
    | some ti => some (.ptr (some (nm, 0)), some (.cells ti.zero e none))
    | none => none

def pubox (ty : Tr TI) (h : Tr AObj) (nm : Nat) (T : Tr AV) (e : TypeId) (x : Operand) : Option (AV × Option AObj) :=
  match ev T x with
    | some v => some (.ptr (some (nm, 0)), some (.cells v.cells e none))
    | none => none

def pubuild (ty : Tr TI) (h : Tr AObj) (nm : Nat) (T : Tr AV) (t : TypeId) (parts : Array (Nat × Operand)) : Option (AV × Option AObj) :=
  match ty.get t with
    | some ti => match ti.kd with
      | .struct fs => match fillA fs T ti.zero parts.toList with
        | some cs => some (.agg cs, none)
        | none => none
      | _ => none
    | none => none

def pubuildSlice (ty : Tr TI) (h : Tr AObj) (nm : Nat) (T : Tr AV) (t : TypeId) (len : Nat) (parts : Array (Nat × Operand)) : Option (AV × Option AObj) :=
  match ty.get t with
    | some ti => match ti.kd with
      | .slice e => match ty.get e with
        | some te => match Nat.ble (len * te.size) 16777216 with
          | true => match fillS te.size T (repA te.zero len) parts.toList with
            | some cs => some (.slice (some (nm, 0)) len 0 none, some (.cells cs e none))
            | none => none
          | false => none
        | none => none
      | _ => none
    | none => none

def puload (ty : Tr TI) (h : Tr AObj) (nm : Nat) (T : Tr AV) (t : TypeId) (a : Operand) : Option (AV × Option AObj) :=
  match ty.get t with
    | none => none
    | some ti => match ev T a with
      | some (.ptr (some (n, o))) => match h.get n with
        | some (.cells cs _ _) => match partA ti.kd.isAgg ti.size cs o with
          | some v => some (v, none)
          | none => none
        | _ => none
      | _ => none

def punilCheck (ty : Tr TI) (h : Tr AObj) (nm : Nat) (T : Tr AV) (x : Operand) : Option (AV × Option AObj) :=
  match ev T x with
    | some (.ptr (some a)) => some (.ptr (some a), none)
    | some (.func (.func f) a b) => some (.func (.func f) a b, none)
    | _ => none

def isConst : Operand → Bool
  | .const _ => true
  | _ => false

/-- A nil interface held against the literal nil. -/
def nilA (ty : Tr TI) (op : BinOp) (t : TypeId) (x y : Operand) (a b : AV) : Option AV :=
  match a, b with
  | .nilIface, .nilIface => match isConst x || isConst y, ty.get t with
    | true, some ti => match ti.kd, op with
      | .iface, .eql => some (.bool true)
      | .iface, .neq => some (.bool false)
      | _, _ => none
    | _, _ => none
  | _, _ => none

/-- What a text's facts say of its being l. -/
def factS (l : List Nat) : List AV → Option Bool
  | [] => none
  | f :: fs => match f with
    | .tuple [.str l', .bool b] => match sameStr l l' with
      | true => some b
      | false => factS l fs
    | _ => factS l fs

/-- What a number's facts say of it and c: the same, less, greater. -/
def factI (k : IntKind) (c : Int) : List AV → Option (Bool × Bool × Bool)
  | [] => none
  | f :: fs => match f with
    | .tuple [.int k' c', .bool e, .bool l, .bool g] => match kindEq k k', eqI c c' with
      | true, true => some (e, l, g)
      | _, _ => factI k c fs
    | _ => factI k c fs

def isText : List AV → Bool
  | [.nilFunc] => true
  | _ => false

/-- An operation on open values. -/
def opnA (op : BinOp) (a b : AV) : Option AV :=
  match a, b with
  | .func (.yield t) fs [], .str l => match op, factS l fs with
    | .eql, some r => some (.bool r)
    | .neq, some r => some (.bool !r)
    | _, _ => none
  | .func (.yield t) fs [], .int k c => match op, factI k c fs with
    | .eql, some (e, _, _) => some (.bool e)
    | .neq, some (e, _, _) => some (.bool !e)
    | .lss, some (_, l, _) => some (.bool l)
    | .leq, some (_, _, g) => some (.bool !g)
    | .gtr, some (_, _, g) => some (.bool g)
    | .geq, some (_, l, _) => some (.bool !l)
    | _, _ => none
  | .func (.yield t) fs [], .func (.yield t') _ [] => match op, isText fs, Nat.beq t t' with
    | .eql, true, true => some (.bool true)
    | .neq, true, true => some (.bool false)
    | _, _, _ => none
  | .func (.yield n) [] [.nilFunc], .str l => match op, Nat.ble (n + l.length) 1000000000 with
    | .add, true => some (.func (.yield (n + l.length)) [] [.nilFunc])
    | _, _ => none
  | .str l, .func (.yield n) [] [.nilFunc] => match op, Nat.ble (l.length + n) 1000000000 with
    | .add, true => some (.func (.yield (l.length + n)) [] [.nilFunc])
    | _, _ => none
  | .func (.yield n) [] [.nilFunc, .tuple ps], .str l => match op with
    | .add => match Nat.ble (n + l.length) 1000000000 with
      | true => some (.func (.yield (n + l.length)) [] [.nilFunc, .tuple (ps ++ [.str l])])
      | false => none
    | .eql => match l, n with
      | [], Nat.succ _ => some (.bool false)
      | _, _ => none
    | .neq => match l, n with
      | [], Nat.succ _ => some (.bool true)
      | _, _ => none
    | _ => none
  | .str l, .func (.yield n) [] [.nilFunc, .tuple ps] => match op, Nat.ble (l.length + n) 1000000000 with
    | .add, true => some (.func (.yield (l.length + n)) [] [.nilFunc, .tuple (.str l :: ps)])
    | _, _ => none
  | .func (.yield n) [] [.nilFunc, .tuple ps], .func (.yield m) [] [.nilFunc, .tuple qs] => match op, Nat.ble (n + m) 1000000000 with
    | .add, true => some (.func (.yield (n + m)) [] [.nilFunc, .tuple (ps ++ qs)])
    | _, _ => none
  | _, _ => none

def pubinOp (ty : Tr TI) (h : Tr AObj) (nm : Nat) (T : Tr AV) (op : BinOp) (t : TypeId) (x y : Operand) : Option (AV × Option AObj) :=
  match ev T x, ev T y with
    | some a, some b => match binA ty op t a b with
      | some v => some (v, none)
      | none => match nilA ty op t x y a b with
        | some v => some (v, none)
        | none => match opnA op a b with
          | some v => some (v, none)
          | none => none
    | _, _ => none

def puunOp (ty : Tr TI) (h : Tr AObj) (nm : Nat) (T : Tr AV) (op : UnOp) (x : Operand) : Option (AV × Option AObj) :=
  match op, ev T x with
    | .not, some (.bool b) => some (.bool !b, none)
    | .neg, some (.int k n) => some (.int k (k.wrap (0 - n)), none)
    | _, _ => none

def puconvert (ty : Tr TI) (h : Tr AObj) (nm : Nat) (T : Tr AV) (s d : TypeId) (x : Operand) : Option (AV × Option AObj) :=
  match ty.get s, ty.get d, ev T x with
    | some ts, some td, some v => match td.kd, v with
      | .int k, .int _ n => some (.int k (wrapA k n), none)
      | .str, .str l => some (.str l, none)
      | .str, .slice a len _ _ => match ts.kd with
        | .slice e => match ty.get e with
          | some te => match te.kd with
            | .int .u8 => match a with
              | none => some (.str [], none)
              | some (n, o) => match h.get n with
                | some (.cells cs _ _) => match cut cs o len with
                  | some l => match bytesOf? l with
                    | some b => some (.str b, none)
                    | none => none
                  | none => none
                | _ => none
            | _ => none
          | none => none
        | _ => none
      | _, _ => none
    | _, _, _ => none

def pumakeInterface (ty : Tr TI) (h : Tr AObj) (nm : Nat) (T : Tr AV) (t : TypeId) (x : Operand) : Option (AV × Option AObj) :=
  match ty.get t, ev T x with
    | some ti, some v => match ti.kd with
      | .iface => none
      | .other => none
      | _ => some (.iface t v, none)
    | _, _ => none

def pumakeSlice (ty : Tr TI) (h : Tr AObj) (nm : Nat) (T : Tr AV) (t : TypeId) (l c : Operand) : Option (AV × Option AObj) :=
  match ty.get t, ev T l, ev T c with
    | some ti, some l, some c => match ti.kd, nat? l, nat? c with
      | .slice e, some l, some c => match ty.get e with
        | some te => match Nat.ble l c, Nat.ble c 16777216, Nat.ble (te.bytes * c) 281474976710656 with
          | true, true, true => some (.slice (some (nm, 0)) l (c - l) none, some (.cells (repA te.zero c) e none))
          | _, _, _ => none
        | none => none
      | _, _, _ => none
    | _, _, _ => none

def pumakeFunc (ty : Tr TI) (h : Tr AObj) (nm : Nat) (T : Tr AV) (fn : Fn) (a b : Array Operand) : Option (AV × Option AObj) :=
  match plainFn fn, evs T a.toList, evs T b.toList with
    | true, some a, some b => some (.func fn a b, none)
    | _, _, _ => none

/-- A slice of an array that a pointer leads to. -/
def pusarr (ty : Tr TI) (T : Tr AV) (n : Nat) (e : TypeId) (v : AV) (lo hi : Option Operand) : Option (AV × Option AObj) :=
  match v with
  | .ptr (some (b, o)) => match ty.get e, bound? T 0 lo, bound? T n hi with
    | some te, some l, some h => match Nat.ble l h, Nat.ble h n, Nat.ble (l + 1) n with
      | true, true, true => some (.slice (some (b, o + l * te.size)) (h - l) (n - h) none, none)
      | true, true, false => some (.slice (some (b, o)) (h - l) (n - h) none, none)
      | _, _, _ => none
    | _, _, _ => none
  | _ => none

def puslice (ty : Tr TI) (h : Tr AObj) (nm : Nat) (T : Tr AV) (t : TypeId) (x : Operand) (lo hi : Option Operand) : Option (AV × Option AObj) :=
  match ty.get t, ev T x with
    | some ti, some v => match ti.kd, v with
      | .str, .str s => match bound? T 0 lo, bound? T s.length hi with
        | some l, some h => match Nat.ble l h, Nat.ble h s.length with
          | true, true => match cut s l (h - l) with
            | some r => some (.str r, none)
            | none => none
          | _, _ => none
        | _, _ => none
      | .slice e, .slice a len room more => match ty.get e, bound? T 0 lo, bound? T len hi with
        | some te, some l, some h => match Nat.ble l h, Nat.ble h (len + room), Nat.ble (l + 1) (len + room) with
          | true, true, true => match a with
            | some (n, o) => some (.slice (some (n, o + l * te.size)) (h - l) (len + room - h) more, none)
            | none => none
          | true, true, false => match l with
            | 0 => some (.slice a (h - l) (len + room - h) more, none)
            | _ + 1 => match a, more with
              | some (n, o), none => some (.slice (some (n, o)) (h - l) (len + room - h) none, none)
              | some (n, o), some m => some (.slice (some (n, o + l * te.size)) (h - l) (len + room - h) (some m), none)
              | none, _ => none
          | _, _, _ => none
        | _, _, _ => none
      | .array n e, v => pusarr ty T n e v lo hi
      | _, _ => none
    | _, _ => none

def pufieldAddr (ty : Tr TI) (h : Tr AObj) (nm : Nat) (T : Tr AV) (t : TypeId) (x : Operand) (f : Nat) : Option (AV × Option AObj) :=
  match ty.get t, ev T x with
    | some ti, some (.ptr (some (n, o))) => match ti.kd with
      | .struct fs => match listGet fs f with
        | some fi => match fi.size with
          | 0 => none
          | _ + 1 => some (.ptr (some (n, o + fi.off)), none)
        | none => none
      | _ => none
    | _, _ => none

def pufield (ty : Tr TI) (h : Tr AObj) (nm : Nat) (T : Tr AV) (t : TypeId) (x : Operand) (f : Nat) : Option (AV × Option AObj) :=
  match ty.get t, ev T x with
    | some ti, some (.agg cs) => match ti.kd with
      | .struct fs => match listGet fs f with
        | some fi => match partA fi.agg fi.size cs fi.off with
          | some v => some (v, none)
          | none => none
        | none => none
      | _ => none
    | _, _ => none

def puindexAddr (ty : Tr TI) (h : Tr AObj) (nm : Nat) (T : Tr AV) (t : TypeId) (x ix : Operand) : Option (AV × Option AObj) :=
  match ty.get t, ev T x, ev T ix with
    | some ti, some (.slice (some (n, o)) len _ _), some i => match ti.kd, nat? i with
      | .slice e, some i => match ty.get e, Nat.ble (i + 1) len with
        | some te, true => some (.ptr (some (n, o + i * te.size)), none)
        | _, _ => none
      | _, _ => none
    | some ti, some (.ptr (some (n, o))), some i => match ti.kd, nat? i with
      | .array len e, some i => match ty.get e, Nat.ble (i + 1) len with
        | some te, true => some (.ptr (some (n, o + i * te.size)), none)
        | _, _ => none
      | _, _ => none
    | _, _, _ => none

def puindex (ty : Tr TI) (h : Tr AObj) (nm : Nat) (T : Tr AV) (t : TypeId) (x ix : Operand) : Option (AV × Option AObj) :=
  match ty.get t, ev T x, ev T ix with
    | some ti, some (.str s), some i => match ti.kd, nat? i with
      | .str, some i => match listGet s i with
        | some b => some (.int .u8 (.ofNat b), none)
        | none => none
      | _, _ => none
    | _, _, _ => none

def pulookup (ty : Tr TI) (h : Tr AObj) (nm : Nat) (T : Tr AV) (t : TypeId) (x ix : Operand) (ok : Bool) : Option (AV × Option AObj) :=
  match ty.get t, ev T x, ev T ix with
    | some ti, some m, some k => match ti.kd with
      | .map kt e => match plainKey ty 4 kt k, ty.get e, mapOf h m with
        | true, some te, some es => match keyIn ty kt k es 0 with
          | some (some (_, v)) => some (okA ok v true, none)
          | some none => match zeroOf te with
            | some z => some (okA ok z false, none)
            | none => none
          | none => none
        | true, some _, none => match lookOf h m with
          | some es => match hits ty kt k es with
            | some [v] => some (okA ok v true, none)
            | _ => none
          | none => none
        | _, _, _ => none
      | _ => none
    | _, _, _ => none

def puextract (ty : Tr TI) (h : Tr AObj) (nm : Nat) (T : Tr AV) (t : Operand) (i : Nat) : Option (AV × Option AObj) :=
  match ev T t with
    | some (.tuple vs) => match listGet vs i with
      | some v => some (v, none)
      | none => none
    | _ => none

def putypeAssert (ty : Tr TI) (h : Tr AObj) (nm : Nat) (T : Tr AV) (x : Operand) (as : TypeId) (ok : Bool) : Option (AV × Option AObj) :=
  match ev T x, ty.get as with
    | some (.iface t v), some ti => match ti.kd with
      | .iface => none
      | .other => none
      | _ => match Nat.beq t as with
        | true => some (okA ok v true, none)
        | false => none
    | some .nilIface, some ti => match ti.kd, ok with
      | .iface, _ => none
      | .other, _ => none
      | _, true => match zeroOf ti with
        | some z => some (.tuple [z, .bool false], none)
        | none => none
      | _, false => none
    | _, _ => none

def pulen (ty : Tr TI) (h : Tr AObj) (nm : Nat) (T : Tr AV) (args : Array Operand) (argTypes : Array TypeId) : Option (AV × Option AObj) :=
  match argTypes.toList, args.toList with
    | [t], [x] => match ty.get t, ev T x with
      | some ti, some v => match ti.kd, v with
        | .str, .str s => some (.int .i64 s.length, none)
        | .str, .func (.yield n) [] [.nilFunc, .tuple _] => some (.int .i64 n, none)
        | .slice _, .slice _ n _ _ => some (.int .i64 n, none)
        | .map _ _, .map none => some (.int .i64 0, none)
        | .map _ _, .map (some r) => match h.get r with
          | some (.map es _) => some (.int .i64 es.length, none)
          | _ => none
        | _, _ => none
      | _, _ => none
    | _, _ => none

def pumin (ty : Tr TI) (h : Tr AObj) (nm : Nat) (T : Tr AV) (args : Array Operand) : Option (AV × Option AObj) :=
  match args.toList with
    | [x, y] => match ev T x, ev T y with
      | some (.int k a), some (.int _ b) => some (.int k (match ltI b a with | true => b | false => a), none)
      | _, _ => none
    | _ => none

def pumax (ty : Tr TI) (h : Tr AObj) (nm : Nat) (T : Tr AV) (args : Array Operand) : Option (AV × Option AObj) :=
  match args.toList with
    | [x, y] => match ev T x, ev T y with
      | some (.int k a), some (.int _ b) => some (.int k (match ltI a b with | true => b | false => a), none)
      | _, _ => none
    | _ => none

/-- What an operation comes to that changes nothing that is there: its value, and the object that it makes, if it makes one, under the name given. -/
def pureOp (ty : Tr TI) (h : Tr AObj) (nm : Nat) (T : Tr AV) : Op → Option (AV × Option AObj)
  | .move x => match ev T x with
    | some v => some (v, none)
    | none => none
  | .assign x => match ev T x with
    | some v => some (v, none)
    | none => none
  | .pick c a b => pupick ty h nm T c a b
  | .alloc e => pualloc ty h nm T e
  | .box e x => pubox ty h nm T e x
  | .build t parts => pubuild ty h nm T t parts
  | .buildSlice t len parts => pubuildSlice ty h nm T t len parts
  | .load t a => puload ty h nm T t a
  | .nilCheck x => punilCheck ty h nm T x
  | .binOp op t x y _ => pubinOp ty h nm T op t x y
  | .unOp op _ x => puunOp ty h nm T op x
  | .convert s d x => puconvert ty h nm T s d x
  | .makeInterface t x => pumakeInterface ty h nm T t x
  | .makeFunc fn a b => pumakeFunc ty h nm T fn a b
  | .makeMap _ none => some (.map (some nm), some (.map [] 0))
  | .makeSlice t l c => pumakeSlice ty h nm T t l c
  | .slice t x lo hi none => puslice ty h nm T t x lo hi
  | .fieldAddr t x f => pufieldAddr ty h nm T t x f
  | .field t x f => pufield ty h nm T t x f
  | .indexAddr t x ix => puindexAddr ty h nm T t x ix
  | .index t x ix => puindex ty h nm T t x ix
  | .lookup t x ix ok => pulookup ty h nm T t x ix ok
  | .extract t i => puextract ty h nm T t i
  | .typeAssert x _ as ok => putypeAssert ty h nm T x as ok
  | .call { callee := .builtin .len, args, argTypes } => pulen ty h nm T args argTypes
  | .call { callee := .builtin .min, args, .. } => pumin ty h nm T args
  | .call { callee := .builtin .max, args, .. } => pumax ty h nm T args
  | _ => none

/-- The cells of what is appended or copied: the first n elements. -/
def firstA (h : Tr AObj) (size n : Nat) : AV → Option (List AV)
  | .slice none _ _ _ => match n with
    | 0 => some []
    | _ + 1 => none
  | .slice (some (b, o)) _ _ _ => match h.get b with
    | some (.cells cs _ _) => cut cs o (n * size)
    | _ => none
  | .str s => match take s n with
    | some l => some (l.map fun b => .int .u8 (.ofNat b))
    | none => none
  | _ => none

def lenA : AV → Option Nat
  | .slice _ n _ _ => some n
  | .str s => some s.length
  | _ => none

/-! What is written down is written down evaluated: these hand on what they are given. -/
def fN {α : Type} (n : Nat) (k : Nat → α) : α :=
  match n with
  | 0 => k 0
  | m + 1 => k (Nat.succ m)

def fI {α : Type} (n : Int) (k : Int → α) : α :=
  match n with
  | .ofNat m => fN m fun m => k (.ofNat m)
  | .negSucc m => fN m fun m => k (.negSucc m)

def fB {α : Type} (b : Bool) (k : Bool → α) : α :=
  match b with
  | true => k true
  | false => k false

def fO {α β : Type} (f : β → (β → α) → α) (o : Option β) (k : Option β → α) : α :=
  match o with
  | none => k none
  | some x => f x fun x => k (some x)

def turnK {α β : Type} : List β → List β → (List β → α) → α
  | [], out, k => k out
  | x :: xs, out, k => turnK xs (x :: out) k

def gatherK {α β : Type} (f : β → (β → α) → α) : List β → List β → (List β → α) → α
  | [], acc, k => turnK acc [] k
  | x :: xs, acc, k => f x fun x => gatherK f xs (x :: acc) k

def fL {α β : Type} (f : β → (β → α) → α) (l : List β) (k : List β → α) : α := gatherK f l [] k

def fP {α : Type} (p : Nat × Nat) (k : Nat × Nat → α) : α :=
  match p with
  | (a, b) => fN a fun a => fN b fun b => k (a, b)

def fV {α : Type} : Nat → AV → (AV → α) → α
  | 0, v, k => k v
  | d + 1, v, k => match v with
    | .bool b => fB b fun b => k (.bool b)
    | .int i n => fI n fun n => k (.int i n)
    | .str s => fL fN s fun s => k (.str s)
    | .ptr a => fO fP a fun a => k (.ptr a)
    | .slice a l r m => fO fP a fun a => fN l fun l => fN r fun r => fO fN m fun m => k (.slice a l r m)
    | .map r => fO fN r fun r => k (.map r)
    | .func g a c => fL (fV d) a fun a => fL (fV d) c fun c => k (.func g a c)
    | .nilFunc => k .nilFunc
    | .iface t v => fV d v fun v => k (.iface t v)
    | .nilIface => k .nilIface
    | .agg cs => fL (fV d) cs fun cs => k (.agg cs)
    | .tuple vs => fL (fV d) vs fun vs => k (.tuple vs)

/-- What comes from where all is evaluated: its head alone. -/
def fQ {α : Type} (v : AV) (k : AV → α) : α :=
  match v with
  | .bool b => fB b fun b => k (.bool b)
  | .int i n => fI n fun n => k (.int i n)
  | .ptr a => fO fP a fun a => k (.ptr a)
  | .slice a l r m => fO fP a fun a => fN l fun l => fN r fun r => fO fN m fun m => k (.slice a l r m)
  | v => k v

def fW {α : Type} (v : AV) (k : AV → α) : α :=
  match v with
  | .agg cs => fL fQ cs fun cs => k (.agg cs)
  | .tuple vs => fL fQ vs fun vs => k (.tuple vs)
  | v => fQ v k

def fX {α : Type} (q : Bool) (v : AV) (k : AV → α) : α :=
  match q with
  | true => fV 5 v k
  | false => fW v k

def fullA : Op → Bool
  | .binOp _ _ _ _ _ => true
  | .convert _ _ _ => true
  | .slice _ _ _ _ _ => true
  | _ => false

def fE {α : Type} (e : AV × AV × Nat) (k : AV × AV × Nat → α) : α :=
  match e with
  | (a, b, n) => fQ a fun a => fQ b fun b => fN n fun n => k (a, b, n)

def fObj {α : Type} (o : AObj) (k : AObj → α) : α :=
  match o with
  | .cells cs e m => fL fQ cs fun cs => fO fP m fun m => k (.cells cs e m)
  | .map es c => fL fE es fun es => fN c fun c => k (.map es c)
  | .stiff cs e => fL fQ cs fun cs => k (.stiff cs e)
  | .look es => fL fE es fun es => k (.look es)

def Tr.putK {α β : Type} : Nat → Tr α → Nat → Option α → (Tr α → β) → β
  | 0, t, _, _, k => k t
  | f + 1, t, n, x, k =>
    match t with
    | .nil => match n with
      | 0 => k (.node .nil x .nil)
      | m + 1 => match m % 2 with
        | 0 => Tr.putK f .nil (m / 2) x fun l => k (.node l none .nil)
        | _ + 1 => Tr.putK f .nil (m / 2) x fun r => k (.node .nil none r)
    | .node l v r => match n with
      | 0 => k (.node l x r)
      | m + 1 => match m % 2 with
        | 0 => Tr.putK f l (m / 2) x fun l => k (.node l v r)
        | _ + 1 => Tr.putK f r (m / 2) x fun r => k (.node l v r)

def minA (a b : Nat) : Nat :=
  match Nat.ble a b with
  | true => a
  | false => b

/-- An object is marked, or struck out; names below 64 are the program's variables: they are read alone. -/
def St.set (S : St) (n : Nat) (o : Option AObj) : Option St :=
  match Nat.ble 64 n with
  | true => fO fObj o fun o => Tr.putK (Nat.succ n) S.heap n o fun h => some ⟨h, S.next, S.syms, Nat.succ S.ver⟩
  | false => none

/-- A new object. -/
def St.push {α : Type} (S : St) (o : AObj) (k : St → α) : α :=
  match S with
  | ⟨h, n, y, r⟩ => fObj o fun o => Tr.putK (Nat.succ n) h n (some o) fun h => fN r fun r => k ⟨h, Nat.succ n, y, Nat.succ r⟩

/-- A new object under a name that was kept for it. -/
def St.pushAt {α : Type} (S : St) (m : Nat) (o : AObj) (k : St → α) : α :=
  match S with
  | ⟨h, n, y, r⟩ => fObj o fun o => Tr.putK (Nat.succ m) h m (some o) fun h => fN r fun r => k ⟨h, n, y, Nat.succ r⟩

/-- A new object with a number of its own for what room there is behind it. -/
def St.pushS {α : Type} (S : St) (o : AObj) (k : St → α) : α :=
  match S with
  | ⟨h, n, y, r⟩ => fObj o fun o => Tr.putK (Nat.succ n) h n (some o) fun h => fN r fun r => k ⟨h, Nat.succ n, Nat.succ y, Nat.succ r⟩

/-- Append. -/
def appendA (ty : Tr TI) (S : St) (t xt : TypeId) (s x : AV) : Option (AV × St) :=
  match ty.get t, ty.get xt, s, lenA x with
  | some ti, some tx, .slice base len room more, some n => match ti.kd, tx.kd with
    | _, .int _ => none
    | _, .other => none
    | .slice e, _ => match ty.get e with
      | none => none
      | some te => match firstA S.heap te.size n x with
        | none => none
        | some new => match Nat.ble n room with
          | true => match n with
            | 0 => some (.slice base len room more, S)
            | _ + 1 => match base with
              | none => none
              | some (b, o) => match S.heap.get b with
                | some (.cells cs el mo) => match lay cs (o + len * te.size) new, allOne new with
                  | some cs', true => match S.set b (some (.cells cs' el mo)) with
                    | some S => some (.slice (some (b, o)) (len + n) (room - n) more, S)
                    | none => none
                  | _, _ => none
                | _ => none
          | false => match firstA S.heap te.size len s, Nat.ble (len + n) 1000000, Nat.ble te.bytes 1000000, te.bytes with
            | some old, true, true, _ + 1 => match Nat.beq (old.length + new.length) ((len + n) * te.size) with
              | false => none
              | true => match more with
                | none => S.pushS (.cells (old ++ new) e (some (S.syms, te.size))) fun S' => some (.slice (some (S.next, 0)) (len + n) 0 (some S.syms), S')
                | some sy => match base, room, allOne new with
                  | some (b, 0), 0, true => match S.heap.get b with
                    | some (.cells cs el (some (sy', z))) => match Nat.beq sy sy' && Nat.beq z te.size && Nat.beq el e && Nat.beq (len * te.size) cs.length, S.set b none with
                      | true, some S => S.pushS (.cells (old ++ new) e (some (S.syms, te.size))) fun S' => some (.slice (some (S.next, 0)) (len + n) 0 (some S.syms), S')
                      | _, _ => none
                    | _ => none
                  | _, _, _ => none
            | _, _, _, _ => none
    | _, _ => none
  | _, _, _, _ => none

def efstore (ty : Tr TI) (S : St) (T : Tr AV) (t : TypeId) (a x : Operand) : Option (AV × St) :=
  match ty.get t, ev T a, ev T x with
    | some ti, some (.ptr (some (n, o))), some v => match S.heap.get n with
      | some (.cells cs e mo) =>
        let vc := v.cells
        match Nat.beq vc.length ti.size && allOne vc with
        | true => match lay cs o vc with
          | some cs' => match S.set n (some (.cells cs' e mo)) with
            | some S => some (undefA, S)
            | none => none
          | none => none
        | false => none
      | _ => none
    | _, _, _ => none

def efmapUpdate (ty : Tr TI) (S : St) (T : Tr AV) (t : TypeId) (m k x : Operand) : Option (AV × St) :=
  match ty.get t, ev T m, ev T k, ev T x with
    | some ti, some (.map (some r)), some k, some v => match ti.kd with
      | .map kt _ => match plainKey ty 4 kt k, S.heap.get r with
        | true, some (.map es clock) => match keyIn ty kt k es 0 with
          | some none => match S.set r (some (.map (es ++ [(k, v, clock)]) (clock + 1))) with
            | some S => some (undefA, S)
            | none => none
          | _ => none
        | _, _ => none
      | _ => none
    | _, _, _, _ => none

def efconvert (ty : Tr TI) (S : St) (T : Tr AV) (a d : TypeId) (x : Operand) : Option (AV × St) :=
  match ty.get a, ty.get d, ev T x with
    | some _, some td, some (.str l) => match td.kd with
      | .slice e => match ty.get e with
        | some te => match te.kd, Nat.ble l.length 1000000 with
          | .int .u8, true => S.pushS (.cells (l.map fun b => .int .u8 (.ofNat b)) e (some (S.syms, te.size))) fun S' => some (.slice (some (S.next, 0)) l.length 0 (some S.syms), S')
          | _, _ => none
        | none => none
      | _ => none
    | _, _, _ => none

def efappend (ty : Tr TI) (S : St) (T : Tr AV) (args : Array Operand) (argTypes : Array TypeId) : Option (AV × St) :=
  match argTypes.toList, args.toList with
    | [t, xt], [s, x] => match ev T s, ev T x with
      | some s, some x => appendA ty S t xt s x
      | _, _ => none
    | _, _ => none

def efcopy (ty : Tr TI) (S : St) (T : Tr AV) (args : Array Operand) (argTypes : Array TypeId) : Option (AV × St) :=
  match argTypes.toList, args.toList with
    | t :: _, [d, x] => match ty.get t, ev T d, ev T x with
      | some ti, some (.slice base dl _ _), some x => match ti.kd, lenA x with
        | .slice e, some xl => match ty.get e with
          | some te =>
            match firstA S.heap te.size (minA xl dl) x with
            | some cs => match minA xl dl, base with
              | 0, _ => some (.int .i64 0, S)
              | _ + 1, none => none
              | n + 1, some (b, o) => match S.heap.get b with
                | some (.cells old el mo) => match lay old o cs, allOne cs with
                  | some l, true => match S.set b (some (.cells l el mo)) with
                    | some S => some (.int .i64 (.ofNat (n + 1)), S)
                    | none => none
                  | _, _ => none
                | _ => none
            | none => none
          | none => none
        | _, _ => none
      | _, _, _ => none
    | _, _ => none

/-- What an operation comes to that changes what is there (no call of a function). -/
def effOp (ty : Tr TI) (S : St) (T : Tr AV) : Op → Option (AV × St)
  | .store t a x => efstore ty S T t a x
  | .mapUpdate t m k x => efmapUpdate ty S T t m k x
  | .convert a d x => efconvert ty S T a d x
  | .call { callee := .builtin .append, args, argTypes } => efappend ty S T args argTypes
  | .call { callee := .builtin .copy, args, argTypes } => efcopy ty S T args argTypes
  | _ => none

inductive AExit where
  | normal
  | exit (id : Nat)
  | ret

/-- Was an operation's test met? none: it says no yes and no no. -/
def wantedA (ops : List Oper) (T : Tr AV) (g : Option (Nat × Bool)) : Bool :=
  match g with
  | none => true
  | some (j, want) => match listGet ops j with
    | some o => match o.dst with
      | some d => match T.get d with
        | some (.bool b) => b == want
        | _ => false
      | none => false
    | none => false

def putT (q : Bool) (nt : Nat) (T : Tr AV) (d : Option Tmp) (v : AV) : Option (Tr AV) :=
  match d with
  | none => some T
  | some d => match Nat.ble (d + 1) nt with
    | true => fX q v fun v => Tr.putK (Nat.succ d) T d (some v) fun T => some T
    | false => none

def argsT {α : Type} : List AV → Nat → Tr AV → (Tr AV → α) → α
  | [], _, T, k => k T
  | v :: vs, i, T, k => fW v fun v => Tr.putK (Nat.succ i) T i (some v) fun T => argsT vs (i + 1) T k

/-- A function's results. -/
def resA (ty : Tr TI) (h : Tr AObj) (T : Tr AV) : List ResultVar → Option (List AV)
  | [] => some []
  | .tmp t :: rs => match T.get t with
    | some v => match resA ty h T rs with
      | some l => some (v :: l)
      | none => none
    | none => none
  | .cell a t :: rs => match T.get a, ty.get t with
    | some (.ptr (some (n, o))), some ti => match h.get n with
      | some (.cells cs _ _) => match partA ti.kd.isAgg ti.size cs o with
        | some v => match resA ty h T rs with
          | some l => some (v :: l)
          | none => none
        | none => none
      | _ => none
    | _, _ => none

def oneA : List AV → AV
  | [v] => v
  | vs => .tuple vs

/-! ### Are two states the same? -/
def eqL {α : Type} (f : α → α → Bool) : List α → List α → Bool
  | [], [] => true
  | x :: xs, y :: ys => match f x y with
    | true => eqL f xs ys
    | false => false
  | _, _ => false

def eqO {α : Type} (f : α → α → Bool) : Option α → Option α → Bool
  | none, none => true
  | some x, some y => f x y
  | _, _ => false

def eqP (a b : Nat × Nat) : Bool := Nat.beq a.1 b.1 && Nat.beq a.2 b.2

def eqV : Nat → AV → AV → Bool
  | 0, _, _ => false
  | d + 1, x, y => match x, y with
    | .bool a, .bool b => a == b
    | .int k a, .int k' b => kindEq k k' && eqI a b
    | .str a, .str b => eqL Nat.beq a b
    | .ptr a, .ptr b => eqO eqP a b
    | .slice a l r m, .slice a' l' r' m' => eqO eqP a a' && Nat.beq l l' && Nat.beq r r' && eqO Nat.beq m m'
    | .map a, .map b => eqO Nat.beq a b
    | .func (.func f) a c, .func (.func g) a' c' => Nat.beq f g && eqL (eqV d) a a' && eqL (eqV d) c c'
    | .func (.yield f) a c, .func (.yield g) a' c' => Nat.beq f g && eqL (eqV d) a a' && eqL (eqV d) c c'
    | .nilFunc, .nilFunc => true
    | .iface t v, .iface t' v' => Nat.beq t t' && eqV d v v'
    | .nilIface, .nilIface => true
    | .agg a, .agg b => eqL (eqV d) a b
    | .tuple a, .tuple b => eqL (eqV d) a b
    | _, _ => false

def eqE (a b : AV × AV × Nat) : Bool := eqV 5 a.1 b.1 && eqV 5 a.2.1 b.2.1 && Nat.beq a.2.2 b.2.2

def eqObj : AObj → AObj → Bool
  | .cells a e m, .cells b e' m' => eqL (eqV 5) a b && Nat.beq e e' && eqO eqP m m'
  | .map a c, .map b c' => eqL eqE a b && Nat.beq c c'
  | .stiff a e, .stiff b e' => eqL (eqV 5) a b && Nat.beq e e'
  | .look a, .look b => eqL eqE a b
  | _, _ => false

def eqTr {α : Type} (f : α → α → Bool) : Tr α → Tr α → Bool
  | .nil, .nil => true
  | .node l v r, .node l' v' r' => match eqO f v v' with
    | true => match eqTr f l l' with
      | true => eqTr f r r'
      | false => false
    | false => false
  | _, _ => false

/-- Two states that both came of S: the same, if neither was written; else all is compared. -/
def eqSt (S A B : St) : Bool :=
  match Nat.beq A.ver S.ver, Nat.beq B.ver S.ver with
  | true, true => Nat.beq A.next B.next
  | _, _ => Nat.beq A.next B.next && Nat.beq A.syms B.syms && Nat.beq A.ver B.ver && eqTr eqObj A.heap B.heap

/-- A value of which one knows all. -/
def AV.sure : Nat → AV → Bool
  | 0, _ => false
  | d + 1, v => match v with
    | .slice (some _) 0 0 (some _) => false
    | .func fn a c => match plainFn fn with
      | true => a.all (AV.sure d) && c.all (AV.sure d)
      | false => match c with
        | [] => true
        | [.nilFunc, .tuple _] => true
        | _ => false
    | .iface _ v => AV.sure d v
    | .agg cs => cs.all (AV.sure d)
    | .tuple vs => vs.all (AV.sure d)
    | _ => true

/-- The operations that are still to come: does one of them wait? -/
def waitsA (e : Edge) (todo : List (Nat × Oper)) : Bool :=
  match todo with
  | [] => false
  | (j, _) :: r => match Nat.beq j e.on with
    | true => true
    | false => waitsA e r

def edgesA (n : Nat) (todo : List (Nat × Oper)) : List Edge → Bool
  | [] => true
  | e :: es => match Region.binds .any e with
    | false => edgesA n todo es
    | true => match Nat.ble (e.on + 1) n, waitsA e todo with
      | true, false => edgesA n todo es
      | _, _ => false

/-- Those that may come now. -/
def readyA (n : Nat) (todo : List (Nat × Oper)) : List (Nat × Oper) → List (Nat × Oper)
  | [] => []
  | (i, o) :: r => match edgesA n todo o.after.toList with
    | true => (i, o) :: readyA n todo r
    | false => readyA n todo r

def onA (i : Nat) : List Edge → Bool
  | [] => false
  | e :: es => match Region.binds .any e && Nat.beq e.on i with
    | true => true
    | false => onA i es

/-- No other waits for what it does but those that say so. -/
def freeA (ops : Array Oper) (i : Nat) (o : Oper) : List (Nat × Oper) → Bool
  | [] => true
  | (j, p) :: r => match Nat.beq j i || onA i p.after.toList || o.apart ops p with
    | true => freeA ops i o r
    | false => false

def dropA (i : Nat) : List (Nat × Oper) → List (Nat × Oper)
  | [] => []
  | (j, o) :: r => match Nat.beq j i with
    | true => dropA i r
    | false => (j, o) :: dropA i r

def numA : List Oper → Nat → List (Nat × Oper)
  | [], _ => []
  | o :: os, i => (i, o) :: numA os (Nat.succ i)

/-- Is the number listed? -/
def memN (i : Nat) : List Nat → Bool
  | [] => false
  | j :: r => match Nat.beq j i with
    | true => true
    | false => memN i r

/-- What an operation yields where nothing but this is known of the memory. -/
def calmH (ty : Tr TI) (h : Tr AObj) (all : List Oper) (T : Tr AV) (o : Oper) : Option AV :=
  match wantedA all T o.guard with
  | false => some undefA
  | true => match pureOp ty h 0 T o.op with
    | some (v, none) => match AV.sure 5 v with
      | true => some v
      | false => none
    | _ => none

/-- What is held fast in a region: objects that are to stay as they are, and the operations behind which nothing is asked. -/
structure Hold where
  objs : List (Nat × AObj)
  tree : Tr AObj
  late : List Nat

def Hold.none : Hold := ⟨[], .nil, []⟩

def calmV (ty : Tr TI) (H : Hold) (all : List Oper) (T : Tr AV) (i : Nat) (o : Oper) : Option AV :=
  match calmH ty .nil all T o with
  | some v => some v
  | none => match H.tree with
    | .nil => .none
    | .node l v r => match memN i H.late with
      | true => .none
      | false => calmH ty (.node l v r) all T o

/-- The first of those that may come now that yields its value whatever the memory. -/
def calmA (ty : Tr TI) (H : Hold) (ops : Array Oper) (all : List Oper) (T : Tr AV) (todo : List (Nat × Oper)) : List (Nat × Oper) → Option (Nat × Oper × AV)
  | [] => none
  | (i, o) :: r => match calmV ty H all T i o with
    | some v => match freeA ops i o todo with
      | true => some (i, o, v)
      | false => calmA ty H ops all T todo r
    | none => calmA ty H ops all T todo r

def sureObj : AObj → Bool
  | .cells cs _ _ => cs.all (AV.sure 5)
  | .map _ _ => false
  | .stiff _ _ => false
  | .look _ => false

/-- They are as they were. -/
def keptA (h : Tr AObj) : List (Nat × AObj) → Bool
  | [] => true
  | (n, o) :: r => match h.get n with
    | some o' => match eqObj o o' with
      | true => keptA h r
      | false => false
    | none => false

def sureAll : List (Nat × AObj) → Bool
  | [] => true
  | (_, o) :: r => match sureObj o with
    | true => sureAll r
    | false => false

def treeOf : List (Nat × AObj) → Tr AObj
  | [] => .nil
  | (n, o) :: r => Tr.put (Nat.succ n) (treeOf r) n (some o)

/-- Does it wait for all of these that are not late? -/
def waitsAll (late : List Nat) (es : List Edge) : List (Nat × Oper) → Bool
  | [] => true
  | (i, _) :: r => match memN i late || onA i es with
    | true => waitsAll late es r
    | false => false

def lateOk (late : List Nat) (num : List (Nat × Oper)) : List (Nat × Oper) → Bool
  | [] => true
  | (j, o) :: r => match !(memN j late) || waitsAll late o.after.toList num with
    | true => lateOk late num r
    | false => false

def isLoad : Op → Bool
  | .load _ _ => true
  | _ => false

def isCall : Op → Bool
  | .call { callee := .value _, .. } => true
  | _ => false

def anyOp (f : Op → Bool) : List Oper → Bool
  | [] => false
  | o :: r => match f o.op with
    | true => true
    | false => anyOp f r

/-- Does it wait for all loads? -/
def waitsLoads (es : List Edge) : List (Nat × Oper) → Bool
  | [] => true
  | (i, o) :: r => match !(isLoad o.op) || onA i es with
    | true => waitsLoads es r
    | false => false

def isStore : Op → Bool
  | .store _ _ _ => true
  | _ => false

/-- The stores that wait for all loads. -/
def lateStores (num : List (Nat × Oper)) : List (Nat × Oper) → List Nat
  | [] => []
  | (j, o) :: r => match isStore o.op, waitsLoads o.after.toList num with
    | true, true => j :: lateStores num r
    | _, _ => lateStores num r

/-- Does one of those that are late not wait for it? -/
def notAwaited (late : List Nat) (i : Nat) : List (Nat × Oper) → Bool
  | [] => false
  | (j, o) :: r => match memN j late, onA i o.after.toList with
    | true, false => true
    | _, _ => notAwaited late i r

def lateGrow (num : List (Nat × Oper)) (late : List Nat) : List (Nat × Oper) → List Nat
  | [] => late
  | (i, _) :: r => match memN i late with
    | true => lateGrow num late r
    | false => match notAwaited late i num with
      | true => lateGrow num (i :: late) r
      | false => lateGrow num late r

def lateOf (num : List (Nat × Oper)) : List Nat :=
  match lateStores num num with
  | [] => []
  | l => lateGrow num (lateGrow num (lateGrow num l num) num) num

/-- The blocks that a value points to. -/
def namesV : AV → List Nat
  | .ptr (some (n, _)) => [n]
  | .slice (some (n, _)) _ _ _ => [n]
  | _ => []

def rootsOp (wide : Bool) (T : Tr AV) : Op → List Nat
  | .load _ (.tmp a) => match T.get a with | some v => namesV v | none => []
  | .fieldAddr _ (.tmp a) _ => match T.get a with | some v => namesV v | none => []
  | .indexAddr _ (.tmp a) _ => match T.get a with | some v => namesV v | none => []
  | .move (.tmp a) => match wide with
    | true => match T.get a with | some v => namesV v | none => []
    | false => []
  | _ => []

def addN (n : Nat) (l : List Nat) : List Nat :=
  match memN n l with
  | true => l
  | false => n :: l

def addNs : List Nat → List Nat → List Nat
  | [], l => l
  | n :: r, l => addN n (addNs r l)

def roots (wide : Bool) (T : Tr AV) : List Oper → List Nat
  | [] => []
  | o :: r => addNs (rootsOp wide T o.op) (roots wide T r)

def inside (h : Tr AObj) : List Nat → List Nat → List Nat
  | [], l => l
  | n :: r, l => match h.get n with
    | some (.cells cs _ _) => inside h r (cs.foldr (fun v l => addNs (namesV v) l) l)
    | _ => inside h r l

def pickObjs (h : Tr AObj) : List Nat → List (Nat × AObj)
  | [] => []
  | n :: r => match h.get n with
    | some o => match sureObj o with
      | true => (n, o) :: pickObjs h r
      | false => pickObjs h r
    | none => pickObjs h r

/-- What to hold fast: where a region both loads and calls, what its loads may read. -/
def holdA (wide : Bool) (T : Tr AV) (h : Tr AObj) (ops : List Oper) : Option Hold :=
  match anyOp isLoad ops, anyOp isCall ops with
  | true, true => match pickObjs h (match wide with | true => inside h (roots wide T ops) (roots wide T ops) | false => roots wide T ops), lateOf (numA ops 0) with
    | objs, late => match sureAll objs, keptA h objs, lateOk late (numA ops 0) (numA ops 0) with
      | true, true, true => some ⟨objs, treeOf objs, late⟩
      | _, _, _ => none
  | _, _ => none

/-- What the program is made of: its types, its functions, and the functions whose results are known. -/
structure Env where
  ty : Tr TI
  fn : Tr Func
  known : FuncId → List AV → Tr AObj → Option (Option AV)
  idle : FuncId → Option Nat

/-- The calls of an operation: the function and the arguments. -/
def calleeA (T : Tr AV) (c : Call) : Option (FuncId × List AV) :=
  match c.callee with
  | .value f => match ev T f, evs T c.args.toList with
    | some (.func (.func g) first captured), some args => some (g, first ++ args ++ captured)
    | _, _ => none
  | _ => none

inductive Task where
  | code (c : Code) (T : Tr AV)
  | ops (all todo : List Oper) (T : Tr AV)
  | op (all : List Oper) (o : Oper) (nm : Option Nat) (T : Tr AV)
  | any (ops : Array Oper) (all : List Oper) (n base : Nat) (H : Hold) (todo : List (Nat × Oper)) (T : Tr AV)
  | call (f : FuncId) (args : List AV)

inductive Out where
  | code (e : AExit) (T : Tr AV) (S : St)
  | call (v : AV) (S : St)

/-- All came to the same. -/
def allSame (S : St) (T1 : Tr AV) (S1 : St) : List (Option Out) → Bool
  | [] => true
  | some (.code .normal T2 S2) :: r => match eqTr (eqV 5) T1 T2 && eqSt S S1 S2 with
    | true => allSame S T1 S1 r
    | false => false
  | _ :: _ => false

def pickSame (S : St) : List (Option Out) → Option Out
  | some (.code .normal T1 S1) :: r => match allSame S T1 S1 r with
    | true => some (.code .normal T1 S1)
    | false => none
  | _ => none

def noSel : List Oper → Bool
  | [] => true
  | o :: os => match o.op with
    | .select _ _ => false
    | _ => noSel os

def rHeld (rec : Nat → Task → St → Option Out) (nt : Nat) (T : Tr AV) (S : St) (ops : Array Oper) (n : Nat) (o : Option Hold) : Option Out :=
  match o with
  | some H => rec nt (.any ops ops.toList ops.toList.length n H (numA ops.toList 0) T) S
  | none => none

def rRegion (rec : Nat → Task → St → Option Out) (nt : Nat) (T : Tr AV) (S : St) (ops : Array Oper) : Option Out :=
  match S with
  | ⟨h, n, y, r⟩ => fN (n + ops.toList.length) fun n' => match rHeld rec nt T ⟨h, n', y, r⟩ ops n (holdA true T h ops.toList) with
    | some out => some out
    | none => match rHeld rec nt T ⟨h, n', y, r⟩ ops n (holdA false T h ops.toList) with
      | some out => some out
      | none => rec nt (.any ops ops.toList ops.toList.length n Hold.none (numA ops.toList 0) T) ⟨h, n', y, r⟩

def rCode (E : Env) (rec : Nat → Task → St → Option Out) (nt : Nat) (T : Tr AV) (S : St) (c : Code) : Option Out :=
  match c with
  | .skip => some (.code .normal T S)
  | .label _ => some (.code .normal T S)
  | .seq a b => match rec nt (.code a T) S with
    | some (.code .normal T S) => rec nt (.code b T) S
    | r => r
  | .cond o a b => match ev T o with
    | some (.bool true) => rec nt (.code a T) S
    | some (.bool false) => rec nt (.code b T) S
    | _ => none
  | .block id b => match rec nt (.code b T) S with
    | some (.code (.exit id') T S) => match Nat.beq id' id with
      | true => some (.code .normal T S)
      | false => some (.code (.exit id') T S)
    | r => r
  | .loop b => match rec nt (.code b T) S with
    | some (.code .normal T S) => rec nt (.code (.loop b) T) S
    | r => r
  | .exit id => some (.code (.exit id) T S)
  | .ret => some (.code .ret T S)
  | .region _ ops false => rec nt (.ops ops.toList ops.toList T) S
  | .region _ ops true => match noSel ops.toList with
    | true => rRegion rec nt T S ops
    | false => none
  | _ => none

def rOps (rec : Nat → Task → St → Option Out) (nt : Nat) (all todo : List Oper) (T : Tr AV) (S : St) : Option Out :=
  match todo with
  | [] => some (.code .normal T S)
  | o :: rest => match rec nt (.op all o none T) S with
    | some (.code .normal T S) => rec nt (.ops all rest T) S
    | _ => none

def rCall (E : Env) (rec : Nat → Task → St → Option Out) (nt : Nat) (T : Tr AV) (S : St) (dst : Option Tmp) (c : Call) : Option Out :=
  match calleeA T c with
  | some (f, args) => match rec nt (.call f args) S with
    | some (.call v S) => match putT false nt T dst v with
      | some T => some (.code .normal T S)
      | none => none
    | _ => none
  | none => none

def rDefer (E : Env) (nt : Nat) (T : Tr AV) (S : St) (dst : Option Tmp) (c : Call) : Option Out :=
  match calleeA T c with
  | some (f, args) => match E.idle f, putT false nt T dst undefA with
    | some n, some T => match Nat.beq args.length n with
      | true => some (.code .normal T S)
      | false => none
    | _, _ => none
  | none => none

def rEff (E : Env) (rec : Nat → Task → St → Option Out) (nt : Nat) (o : Oper) (T : Tr AV) (S : St) : Option Out :=
  match effOp E.ty S T o.op with
  | some (v, S) => match putT true nt T o.dst v with
    | some T => some (.code .normal T S)
    | none => none
  | none => match o.op with
    | .call c => rCall E rec nt T S o.dst c
    | .defer c => rDefer E nt T S o.dst c
    | _ => none

def rOp (E : Env) (rec : Nat → Task → St → Option Out) (nt : Nat) (all : List Oper) (o : Oper) (nm : Option Nat) (T : Tr AV) (S : St) : Option Out :=
  match wantedA all T o.guard with
  | false => match putT false nt T o.dst undefA with
    | some T => some (.code .normal T S)
    | none => none
  | true => match pureOp E.ty S.heap (match nm with | some m => m | none => S.next) T o.op with
    | some (v, none) => match putT (fullA o.op) nt T o.dst v with
      | some T => some (.code .normal T S)
      | none => none
    | some (v, some ob) => match putT (fullA o.op) nt T o.dst v with
      | some T => match nm with
        | none => S.push ob fun S => some (.code .normal T S)
        | some m => S.pushAt m ob fun S => some (.code .normal T S)
      | none => none
    | none => rEff E rec nt o T S

def rAny (E : Env) (rec : Nat → Task → St → Option Out) (nt : Nat) (ops : Array Oper) (all : List Oper) (n base : Nat) (H : Hold) (todo : List (Nat × Oper)) (T : Tr AV) (S : St) : Option Out :=
  match todo with
  | [] => some (.code .normal T S)
  | _ :: _ => match calmA E.ty H ops all T todo (readyA n todo todo) with
    | some (i, o, v) => match putT (fullA o.op) nt T o.dst v with
      | some T => rec nt (.any ops all n base H (dropA i todo) T) S
      | none => none
    | none => pickSame S ((readyA n todo todo).map fun p => match rec nt (.op all p.2 (some (base + p.1)) T) S with
        | some (.code .normal T S) => match memN p.1 H.late || keptA S.heap H.objs with
          | true => rec nt (.any ops all n base H (dropA p.1 todo) T) S
          | false => none
        | _ => none)

def rFun (E : Env) (rec : Nat → Task → St → Option Out) (f : FuncId) (args : List AV) (S : St) : Option Out :=
  match E.known f args S.heap with
  | some (some v) => fV 5 v fun v => some (.call v S)
  | some none => none
  | none => match E.fn.get f with
    | none => none
    | some fn => match fn.body with
      | none => none
      | some c => match Nat.ble args.length fn.ntmps with
        | false => none
        | true => argsT args 0 .nil fun T => match rec fn.ntmps (.code c T) S with
          | some (.code .normal T S) => match resA E.ty S.heap T fn.results.toList with
            | some vs => some (.call (oneA vs) S)
            | none => none
          | some (.code .ret T S) => match resA E.ty S.heap T fn.results.toList with
            | some vs => some (.call (oneA vs) S)
            | none => none
          | _ => none

/-- The run within one call of a function; cr: what the calls come to. -/
def run (E : Env) (cr : FuncId → List AV → St → Option Out) : Nat → Nat → Task → St → Option Out
  | 0, _, _, _ => none
  | fuel + 1, nt, k, S =>
    match k with
    | .code c T => rCode E (run E cr fuel) nt T S c
    | .ops all todo T => rOps (run E cr fuel) nt all todo T S
    | .op all o nm T => rOp E (run E cr fuel) nt all o nm T S
    | .any ops all n base H todo T => rAny E (run E cr fuel) nt ops all n base H todo T S
    | .call f args => cr f args S

/-- What calls come to, d deep, with N steps at most in one line of each; memo: what is known of them already. -/
def calls (E : Env) (memo : FuncId → List AV → St → Option Out) (N : Nat) : Nat → FuncId → List AV → St → Option Out
  | 0, _, _, _ => none
  | d + 1, f, args, S => match memo f args S with
    | some out => some out
    | none => rFun E (run E (calls E memo N d) N) f args S

def noMemo : FuncId → List AV → St → Option Out := fun _ _ _ => none
end Go.Exe
