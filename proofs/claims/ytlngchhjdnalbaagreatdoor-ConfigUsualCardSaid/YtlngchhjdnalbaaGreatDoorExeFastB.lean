/- The executor by recursors: the operations (printed by gen_fast.py out of ExeDef). -/
import Derived.Test.YtlngchhjdnalbaaGreatDoorExeFastA
set_option linter.unusedVariables false
set_option linter.unusedSimpArgs false
namespace Go.Exe
noncomputable section

def evsF (T : Tr AV) : List Operand → Option (List AV)
  | [] => some []
  | o :: os => match evF T o with
    | none => none
    | some x => match evsF T os with
      | some l => some (x :: l)
      | none => none

theorem evsF_eq (T : Tr AV) : ∀ x0, evsF T x0 = evs T x0 := by
  intro x0
  induction x0 with
  | nil => simp only [evsF, evs]
  | cons a l ih => simp only [evsF, evs, ih, evF_eq] <;> rfl

def fillAF (fs : List FI) (T : Tr AV) (cs : List AV) : List (Nat × Operand) → Option (List AV)
  | [] => some cs
  | (i, x) :: rest =>
    match listGet fs i, evF T x with
    | some f, some v =>
      let vc := v.cells
      match Nat.beq vc.length f.size with
      | true => match lay cs f.off vc with
        | some cs => fillAF fs T cs rest
        | none => none
      | false => none
    | _, _ => none

theorem fillAF_eq (fs : List FI) (T : Tr AV) (cs : List AV) : ∀ x0, fillAF fs T cs x0 = fillA fs T cs x0 := by
  intro x0
  induction x0 generalizing cs with
  | nil => simp only [fillAF, fillA]
  | cons a l ih => simp only [fillAF, fillA, ih, evF_eq] <;> rfl

def fillSF (size : Nat) (T : Tr AV) (cs : List AV) : List (Nat × Operand) → Option (List AV)
  | [] => some cs
  | (i, x) :: rest =>
    match evF T x with
    | some v =>
      let vc := v.cells
      match Nat.beq vc.length size with
      | true => match lay cs (i * size) vc with
        | some cs => fillSF size T cs rest
        | none => none
      | false => none
    | _ => none

theorem fillSF_eq (size : Nat) (T : Tr AV) (cs : List AV) : ∀ x0, fillSF size T cs x0 = fillS size T cs x0 := by
  intro x0
  induction x0 generalizing cs with
  | nil => simp only [fillSF, fillS]
  | cons a l ih => simp only [fillSF, fillS, ih, evF_eq] <;> rfl

def boundF (T : Tr AV) (d : Nat) : Option Operand → Option Nat
  | none => some d
  | some o => match evF T o with
    | some v => nat? v
    | none => none

theorem boundF_eq (T : Tr AV) (d : Nat) : ∀ x0, boundF T d x0 = bound? T d x0 := by
  intro x0
  unfold boundF bound?
  simp only [evF_eq] <;> rfl

def mapOfF (h : Tr AObj) : AV → Option (List (AV × AV × Nat))
  | .map none => some []
  | .map (some r) => match h.getF r with
    | some (.map es _) => some es
    | _ => none
  | _ => none

theorem mapOfF_eq (h : Tr AObj) : ∀ x0, mapOfF h x0 = mapOf h x0 := by
  intro x0
  unfold mapOfF mapOf
  simp only [Tr.getF_eq] <;> rfl

def pupickF (ty : Tr TI) (h : Tr AObj) (nm : Nat) (T : Tr AV) (c a b : Operand) : Option (AV × Option AObj) :=
  match evF T c with
    | some (.bool true) => match evF T a with
      | some v => some (v, none)
      | none => none
    | some (.bool false) => match evF T b with
      | some v => some (v, none)
      | none => none
    | _ => none

theorem pupickF_eq (ty : Tr TI) (h : Tr AObj) (nm : Nat) (T : Tr AV) (c a b : Operand) : pupickF ty h nm T c a b = pupick ty h nm T c a b := by
  simp only [pupickF, pupick, evF_eq] <;> rfl

def puboxF (ty : Tr TI) (h : Tr AObj) (nm : Nat) (T : Tr AV) (e : TypeId) (x : Operand) : Option (AV × Option AObj) :=
  match evF T x with
    | some v => some (.ptr (some (nm, 0)), some (.cells v.cells e none))
    | none => none

theorem puboxF_eq (ty : Tr TI) (h : Tr AObj) (nm : Nat) (T : Tr AV) (e : TypeId) (x : Operand) : puboxF ty h nm T e x = pubox ty h nm T e x := by
  simp only [puboxF, pubox, evF_eq] <;> rfl

def pubuildF (ty : Tr TI) (h : Tr AObj) (nm : Nat) (T : Tr AV) (t : TypeId) (parts : Array (Nat × Operand)) : Option (AV × Option AObj) :=
  match ty.get t with
    | some ti => match ti.kd with
      | .struct fs => match fillAF fs T ti.zero parts.toList with
        | some cs => some (.agg cs, none)
        | none => none
      | _ => none
    | none => none

theorem pubuildF_eq (ty : Tr TI) (h : Tr AObj) (nm : Nat) (T : Tr AV) (t : TypeId) (parts : Array (Nat × Operand)) : pubuildF ty h nm T t parts = pubuild ty h nm T t parts := by
  simp only [pubuildF, pubuild, fillAF_eq] <;> rfl

def pubuildSliceF (ty : Tr TI) (h : Tr AObj) (nm : Nat) (T : Tr AV) (t : TypeId) (len : Nat) (parts : Array (Nat × Operand)) : Option (AV × Option AObj) :=
  match ty.get t with
    | some ti => match ti.kd with
      | .slice e => match ty.get e with
        | some te => match Nat.ble (len * te.size) 16777216 with
          | true => match fillSF te.size T (repA te.zero len) parts.toList with
            | some cs => some (.slice (some (nm, 0)) len 0 none, some (.cells cs e none))
            | none => none
          | false => none
        | none => none
      | _ => none
    | none => none

theorem pubuildSliceF_eq (ty : Tr TI) (h : Tr AObj) (nm : Nat) (T : Tr AV) (t : TypeId) (len : Nat) (parts : Array (Nat × Operand)) : pubuildSliceF ty h nm T t len parts = pubuildSlice ty h nm T t len parts := by
  simp only [pubuildSliceF, pubuildSlice, fillSF_eq] <;> rfl

def puloadF (ty : Tr TI) (h : Tr AObj) (nm : Nat) (T : Tr AV) (t : TypeId) (a : Operand) : Option (AV × Option AObj) :=
  match ty.get t with
    | none => none
    | some ti => match evF T a with
      | some (.ptr (some (n, o))) => match h.getF n with
        | some (.cells cs _ _) => match partA ti.kd.isAgg ti.size cs o with
          | some v => some (v, none)
          | none => none
        | _ => none
      | _ => none

theorem puloadF_eq (ty : Tr TI) (h : Tr AObj) (nm : Nat) (T : Tr AV) (t : TypeId) (a : Operand) : puloadF ty h nm T t a = puload ty h nm T t a := by
  simp only [puloadF, puload, evF_eq, Tr.getF_eq] <;> rfl

def punilCheckF (ty : Tr TI) (h : Tr AObj) (nm : Nat) (T : Tr AV) (x : Operand) : Option (AV × Option AObj) :=
  match evF T x with
    | some (.ptr (some a)) => some (.ptr (some a), none)
    | some (.func (.func f) a b) => some (.func (.func f) a b, none)
    | _ => none

theorem punilCheckF_eq (ty : Tr TI) (h : Tr AObj) (nm : Nat) (T : Tr AV) (x : Operand) : punilCheckF ty h nm T x = punilCheck ty h nm T x := by
  simp only [punilCheckF, punilCheck, evF_eq] <;> rfl

def pubinOpF (ty : Tr TI) (h : Tr AObj) (nm : Nat) (T : Tr AV) (op : BinOp) (t : TypeId) (x y : Operand) : Option (AV × Option AObj) :=
  match evF T x, evF T y with
    | some a, some b => match binA ty op t a b with
      | some v => some (v, none)
      | none => none
    | _, _ => none

theorem pubinOpF_eq (ty : Tr TI) (h : Tr AObj) (nm : Nat) (T : Tr AV) (op : BinOp) (t : TypeId) (x y : Operand) : pubinOpF ty h nm T op t x y = pubinOp ty h nm T op t x y := by
  simp only [pubinOpF, pubinOp, evF_eq] <;> rfl

def puunOpF (ty : Tr TI) (h : Tr AObj) (nm : Nat) (T : Tr AV) (op : UnOp) (x : Operand) : Option (AV × Option AObj) :=
  match op, evF T x with
    | .not, some (.bool b) => some (.bool !b, none)
    | .neg, some (.int k n) => some (.int k (k.wrap (0 - n)), none)
    | _, _ => none

theorem puunOpF_eq (ty : Tr TI) (h : Tr AObj) (nm : Nat) (T : Tr AV) (op : UnOp) (x : Operand) : puunOpF ty h nm T op x = puunOp ty h nm T op x := by
  simp only [puunOpF, puunOp, evF_eq] <;> rfl

def puconvertF (ty : Tr TI) (h : Tr AObj) (nm : Nat) (T : Tr AV) (s d : TypeId) (x : Operand) : Option (AV × Option AObj) :=
  match ty.get s, ty.get d, evF T x with
    | some ts, some td, some v => match td.kd, v with
      | .int k, .int _ n => some (.int k (wrapA k n), none)
      | .str, .str l => some (.str l, none)
      | .str, .slice a len _ _ => match ts.kd with
        | .slice e => match ty.get e with
          | some te => match te.kd with
            | .int .u8 => match a with
              | none => some (.str [], none)
              | some (n, o) => match h.getF n with
                | some (.cells cs _ _) => match cut cs o len with
                  | some l => match bytesOf? l with
                    | some b => some (.str b, none)
                    | none => none
                  | none => none
                | _ => none
            | _ => none
          | none => none
        | _ => none
      | _, _ => none
    | _, _, _ => none

theorem puconvertF_eq (ty : Tr TI) (h : Tr AObj) (nm : Nat) (T : Tr AV) (s d : TypeId) (x : Operand) : puconvertF ty h nm T s d x = puconvert ty h nm T s d x := by
  simp only [puconvertF, puconvert, evF_eq, Tr.getF_eq] <;> rfl

def pumakeInterfaceF (ty : Tr TI) (h : Tr AObj) (nm : Nat) (T : Tr AV) (t : TypeId) (x : Operand) : Option (AV × Option AObj) :=
  match ty.get t, evF T x with
    | some ti, some v => match ti.kd with
      | .iface => none
      | .other => none
      | _ => some (.iface t v, none)
    | _, _ => none

theorem pumakeInterfaceF_eq (ty : Tr TI) (h : Tr AObj) (nm : Nat) (T : Tr AV) (t : TypeId) (x : Operand) : pumakeInterfaceF ty h nm T t x = pumakeInterface ty h nm T t x := by
  simp only [pumakeInterfaceF, pumakeInterface, evF_eq] <;> rfl

def pumakeFuncF (ty : Tr TI) (h : Tr AObj) (nm : Nat) (T : Tr AV) (fn : Fn) (a b : Array Operand) : Option (AV × Option AObj) :=
  match evsF T a.toList, evsF T b.toList with
    | some a, some b => some (.func fn a b, none)
    | _, _ => none

theorem pumakeFuncF_eq (ty : Tr TI) (h : Tr AObj) (nm : Nat) (T : Tr AV) (fn : Fn) (a b : Array Operand) : pumakeFuncF ty h nm T fn a b = pumakeFunc ty h nm T fn a b := by
  simp only [pumakeFuncF, pumakeFunc, evsF_eq] <;> rfl

def pusliceF (ty : Tr TI) (h : Tr AObj) (nm : Nat) (T : Tr AV) (t : TypeId) (x : Operand) (lo hi : Option Operand) : Option (AV × Option AObj) :=
  match ty.get t, evF T x with
    | some ti, some v => match ti.kd, v with
      | .str, .str s => match boundF T 0 lo, boundF T s.length hi with
        | some l, some h => match Nat.ble l h, Nat.ble h s.length with
          | true, true => match cut s l (h - l) with
            | some r => some (.str r, none)
            | none => none
          | _, _ => none
        | _, _ => none
      | .slice e, .slice a len room more => match ty.get e, boundF T 0 lo, boundF T len hi with
        | some te, some l, some h => match Nat.ble l h, Nat.ble h (len + room), Nat.ble (l + 1) (len + room) with
          | true, true, true => match a with
            | some (n, o) => some (.slice (some (n, o + l * te.size)) (h - l) (len + room - h) more, none)
            | none => none
          | true, true, false => match l with
            | 0 => some (.slice a (h - l) (len + room - h) more, none)
            | _ + 1 => match a, more with
              | some (n, o), none => some (.slice (some (n, o)) (h - l) (len + room - h) none, none)
              | some (n, o), some m => some (.slice (some (n, o + l * te.size)) (h - l) (len + room - h) (some m), none)
              | none, _ => none
          | _, _, _ => none
        | _, _, _ => none
      | _, _ => none
    | _, _ => none

theorem pusliceF_eq (ty : Tr TI) (h : Tr AObj) (nm : Nat) (T : Tr AV) (t : TypeId) (x : Operand) (lo hi : Option Operand) : pusliceF ty h nm T t x lo hi = puslice ty h nm T t x lo hi := by
  simp only [pusliceF, puslice, evF_eq, boundF_eq] <;> rfl

def pufieldAddrF (ty : Tr TI) (h : Tr AObj) (nm : Nat) (T : Tr AV) (t : TypeId) (x : Operand) (f : Nat) : Option (AV × Option AObj) :=
  match ty.get t, evF T x with
    | some ti, some (.ptr (some (n, o))) => match ti.kd with
      | .struct fs => match listGet fs f with
        | some fi => match fi.size with
          | 0 => none
          | _ + 1 => some (.ptr (some (n, o + fi.off)), none)
        | none => none
      | _ => none
    | _, _ => none

theorem pufieldAddrF_eq (ty : Tr TI) (h : Tr AObj) (nm : Nat) (T : Tr AV) (t : TypeId) (x : Operand) (f : Nat) : pufieldAddrF ty h nm T t x f = pufieldAddr ty h nm T t x f := by
  simp only [pufieldAddrF, pufieldAddr, evF_eq] <;> rfl

def pufieldF (ty : Tr TI) (h : Tr AObj) (nm : Nat) (T : Tr AV) (t : TypeId) (x : Operand) (f : Nat) : Option (AV × Option AObj) :=
  match ty.get t, evF T x with
    | some ti, some (.agg cs) => match ti.kd with
      | .struct fs => match listGet fs f with
        | some fi => match partA fi.agg fi.size cs fi.off with
          | some v => some (v, none)
          | none => none
        | none => none
      | _ => none
    | _, _ => none

theorem pufieldF_eq (ty : Tr TI) (h : Tr AObj) (nm : Nat) (T : Tr AV) (t : TypeId) (x : Operand) (f : Nat) : pufieldF ty h nm T t x f = pufield ty h nm T t x f := by
  simp only [pufieldF, pufield, evF_eq] <;> rfl

def puindexAddrF (ty : Tr TI) (h : Tr AObj) (nm : Nat) (T : Tr AV) (t : TypeId) (x ix : Operand) : Option (AV × Option AObj) :=
  match ty.get t, evF T x, evF T ix with
    | some ti, some (.slice (some (n, o)) len _ _), some i => match ti.kd, nat? i with
      | .slice e, some i => match ty.get e, Nat.ble (i + 1) len with
        | some te, true => some (.ptr (some (n, o + i * te.size)), none)
        | _, _ => none
      | _, _ => none
    | some ti, some (.ptr (some (n, o))), some i => match ti.kd, nat? i with
      | .array len e, some i => match ty.get e, Nat.ble (i + 1) len with
        | some te, true => some (.ptr (some (n, o + i * te.size)), none)
        | _, _ => none
      | _, _ => none
    | _, _, _ => none

theorem puindexAddrF_eq (ty : Tr TI) (h : Tr AObj) (nm : Nat) (T : Tr AV) (t : TypeId) (x ix : Operand) : puindexAddrF ty h nm T t x ix = puindexAddr ty h nm T t x ix := by
  simp only [puindexAddrF, puindexAddr, evF_eq] <;> rfl

def puindexF (ty : Tr TI) (h : Tr AObj) (nm : Nat) (T : Tr AV) (t : TypeId) (x ix : Operand) : Option (AV × Option AObj) :=
  match ty.get t, evF T x, evF T ix with
    | some ti, some (.str s), some i => match ti.kd, nat? i with
      | .str, some i => match listGet s i with
        | some b => some (.int .u8 (.ofNat b), none)
        | none => none
      | _, _ => none
    | _, _, _ => none

theorem puindexF_eq (ty : Tr TI) (h : Tr AObj) (nm : Nat) (T : Tr AV) (t : TypeId) (x ix : Operand) : puindexF ty h nm T t x ix = puindex ty h nm T t x ix := by
  simp only [puindexF, puindex, evF_eq] <;> rfl

def pulookupF (ty : Tr TI) (h : Tr AObj) (nm : Nat) (T : Tr AV) (t : TypeId) (x ix : Operand) (ok : Bool) : Option (AV × Option AObj) :=
  match ty.get t, evF T x, evF T ix with
    | some ti, some m, some k => match ti.kd with
      | .map kt e => match plainKey ty 4 kt k, ty.get e, mapOfF h m with
        | true, some te, some es => match keyIn ty kt k es 0 with
          | some (some (_, v)) => some (okA ok v true, none)
          | some none => match zeroOf te with
            | some z => some (okA ok z false, none)
            | none => none
          | none => none
        | _, _, _ => none
      | _ => none
    | _, _, _ => none

theorem pulookupF_eq (ty : Tr TI) (h : Tr AObj) (nm : Nat) (T : Tr AV) (t : TypeId) (x ix : Operand) (ok : Bool) : pulookupF ty h nm T t x ix ok = pulookup ty h nm T t x ix ok := by
  simp only [pulookupF, pulookup, evF_eq, mapOfF_eq] <;> rfl

def puextractF (ty : Tr TI) (h : Tr AObj) (nm : Nat) (T : Tr AV) (t : Operand) (i : Nat) : Option (AV × Option AObj) :=
  match evF T t with
    | some (.tuple vs) => match listGet vs i with
      | some v => some (v, none)
      | none => none
    | _ => none

theorem puextractF_eq (ty : Tr TI) (h : Tr AObj) (nm : Nat) (T : Tr AV) (t : Operand) (i : Nat) : puextractF ty h nm T t i = puextract ty h nm T t i := by
  simp only [puextractF, puextract, evF_eq] <;> rfl

def putypeAssertF (ty : Tr TI) (h : Tr AObj) (nm : Nat) (T : Tr AV) (x : Operand) (as : TypeId) (ok : Bool) : Option (AV × Option AObj) :=
  match evF T x, ty.get as with
    | some (.iface t v), some ti => match ti.kd with
      | .iface => none
      | .other => none
      | _ => match Nat.beq t as with
        | true => some (okA ok v true, none)
        | false => none
    | some .nilIface, some ti => match ti.kd, ok with
      | .iface, _ => none
      | .other, _ => none
      | _, true => match zeroOf ti with
        | some z => some (.tuple [z, .bool false], none)
        | none => none
      | _, false => none
    | _, _ => none

theorem putypeAssertF_eq (ty : Tr TI) (h : Tr AObj) (nm : Nat) (T : Tr AV) (x : Operand) (as : TypeId) (ok : Bool) : putypeAssertF ty h nm T x as ok = putypeAssert ty h nm T x as ok := by
  simp only [putypeAssertF, putypeAssert, evF_eq] <;> rfl

def pulenF (ty : Tr TI) (h : Tr AObj) (nm : Nat) (T : Tr AV) (args : Array Operand) (argTypes : Array TypeId) : Option (AV × Option AObj) :=
  match argTypes.toList, args.toList with
    | [t], [x] => match ty.get t, evF T x with
      | some ti, some v => match ti.kd, v with
        | .str, .str s => some (.int .i64 s.length, none)
        | .slice _, .slice _ n _ _ => some (.int .i64 n, none)
        | .map _ _, .map none => some (.int .i64 0, none)
        | .map _ _, .map (some r) => match h.getF r with
          | some (.map es _) => some (.int .i64 es.length, none)
          | _ => none
        | _, _ => none
      | _, _ => none
    | _, _ => none

theorem pulenF_eq (ty : Tr TI) (h : Tr AObj) (nm : Nat) (T : Tr AV) (args : Array Operand) (argTypes : Array TypeId) : pulenF ty h nm T args argTypes = pulen ty h nm T args argTypes := by
  simp only [pulenF, pulen, evF_eq, Tr.getF_eq] <;> rfl

def puminF (ty : Tr TI) (h : Tr AObj) (nm : Nat) (T : Tr AV) (args : Array Operand) : Option (AV × Option AObj) :=
  match args.toList with
    | [x, y] => match evF T x, evF T y with
      | some (.int k a), some (.int _ b) => some (.int k (match ltI b a with | true => b | false => a), none)
      | _, _ => none
    | _ => none

theorem puminF_eq (ty : Tr TI) (h : Tr AObj) (nm : Nat) (T : Tr AV) (args : Array Operand) : puminF ty h nm T args = pumin ty h nm T args := by
  simp only [puminF, pumin, evF_eq] <;> rfl

def pumaxF (ty : Tr TI) (h : Tr AObj) (nm : Nat) (T : Tr AV) (args : Array Operand) : Option (AV × Option AObj) :=
  match args.toList with
    | [x, y] => match evF T x, evF T y with
      | some (.int k a), some (.int _ b) => some (.int k (match ltI a b with | true => b | false => a), none)
      | _, _ => none
    | _ => none

theorem pumaxF_eq (ty : Tr TI) (h : Tr AObj) (nm : Nat) (T : Tr AV) (args : Array Operand) : pumaxF ty h nm T args = pumax ty h nm T args := by
  simp only [pumaxF, pumax, evF_eq] <;> rfl

def firstAF (h : Tr AObj) (size n : Nat) : AV → Option (List AV)
  | .slice none _ _ _ => match n with
    | 0 => some []
    | _ + 1 => none
  | .slice (some (b, o)) _ _ _ => match h.getF b with
    | some (.cells cs _ _) => cut cs o (n * size)
    | _ => none
  | .str s => match take s n with
    | some l => some (l.map fun b => .int .u8 (.ofNat b))
    | none => none
  | _ => none

theorem firstAF_eq (h : Tr AObj) (size n : Nat) : ∀ x0, firstAF h size n x0 = firstA h size n x0 := by
  intro x0
  unfold firstAF firstA
  simp only [Tr.getF_eq] <;> rfl

def St.setF (S : St) (n : Nat) (o : Option AObj) : Option St :=
  match Nat.ble 64 n with
  | true => fO fObj o fun o => Tr.putF (Nat.succ n) S.heap n o fun h => some ⟨h, S.next, S.syms, Nat.succ S.ver⟩
  | false => none

theorem St.setF_eq (S : St) (n : Nat) (o : Option AObj) : St.setF S n o = St.set S n o := by
  simp only [St.setF, St.set, Tr.putF_eq] <;> rfl

def St.pushF {α : Type} (S : St) (o : AObj) (k : St → α) : α :=
  match S with
  | ⟨h, n, y, r⟩ => fObj o fun o => Tr.putF (Nat.succ n) h n (some o) fun h => fNF r fun r => k ⟨h, Nat.succ n, y, Nat.succ r⟩

theorem St.pushF_eq {α : Type} (S : St) (o : AObj) (k : St → α) : St.pushF S o k = St.push S o k := by
  simp only [St.pushF, St.push, Tr.putF_eq, fNF_eq, fN_eq] <;> rfl

def St.pushAtF {α : Type} (S : St) (m : Nat) (o : AObj) (k : St → α) : α :=
  match S with
  | ⟨h, n, y, r⟩ => fObj o fun o => Tr.putF (Nat.succ m) h m (some o) fun h => fNF r fun r => k ⟨h, n, y, Nat.succ r⟩

theorem St.pushAtF_eq {α : Type} (S : St) (m : Nat) (o : AObj) (k : St → α) : St.pushAtF S m o k = St.pushAt S m o k := by
  simp only [St.pushAtF, St.pushAt, Tr.putF_eq, fNF_eq, fN_eq] <;> rfl

def St.pushSF {α : Type} (S : St) (o : AObj) (k : St → α) : α :=
  match S with
  | ⟨h, n, y, r⟩ => fObj o fun o => Tr.putF (Nat.succ n) h n (some o) fun h => fNF r fun r => k ⟨h, Nat.succ n, Nat.succ y, Nat.succ r⟩

theorem St.pushSF_eq {α : Type} (S : St) (o : AObj) (k : St → α) : St.pushSF S o k = St.pushS S o k := by
  simp only [St.pushSF, St.pushS, Tr.putF_eq, fNF_eq, fN_eq] <;> rfl

def appendAF (ty : Tr TI) (S : St) (t xt : TypeId) (s x : AV) : Option (AV × St) :=
  match ty.get t, ty.get xt, s, lenA x with
  | some ti, some tx, .slice base len room more, some n => match ti.kd, tx.kd with
    | _, .int _ => none
    | _, .other => none
    | .slice e, _ => match ty.get e with
      | none => none
      | some te => match firstAF S.heap te.size n x with
        | none => none
        | some new => match Nat.ble n room with
          | true => match n with
            | 0 => some (.slice base len room more, S)
            | _ + 1 => match base with
              | none => none
              | some (b, o) => match S.heap.getF b with
                | some (.cells cs el mo) => match lay cs (o + len * te.size) new, allOne new with
                  | some cs', true => match S.setF b (some (.cells cs' el mo)) with
                    | some S => some (.slice (some (b, o)) (len + n) (room - n) more, S)
                    | none => none
                  | _, _ => none
                | _ => none
          | false => match firstAF S.heap te.size len s, Nat.ble (len + n) 1000000, Nat.ble te.bytes 1000000, te.bytes with
            | some old, true, true, _ + 1 => match Nat.beq (old.length + new.length) ((len + n) * te.size) with
              | false => none
              | true => match more with
                | none => S.pushSF (.cells (old ++ new) e (some (S.syms, te.size))) fun S' => some (.slice (some (S.next, 0)) (len + n) 0 (some S.syms), S')
                | some sy => match base, room, allOne new with
                  | some (b, 0), 0, true => match S.heap.getF b with
                    | some (.cells cs el (some (sy', z))) => match Nat.beq sy sy' && Nat.beq z te.size && Nat.beq el e && Nat.beq (len * te.size) cs.length, S.setF b none with
                      | true, some S => S.pushSF (.cells (old ++ new) e (some (S.syms, te.size))) fun S' => some (.slice (some (S.next, 0)) (len + n) 0 (some S.syms), S')
                      | _, _ => none
                    | _ => none
                  | _, _, _ => none
            | _, _, _, _ => none
    | _, _ => none
  | _, _, _, _ => none

theorem appendAF_eq (ty : Tr TI) (S : St) (t xt : TypeId) (s x : AV) : appendAF ty S t xt s x = appendA ty S t xt s x := by
  simp only [appendAF, appendA, Tr.getF_eq, firstAF_eq, St.setF_eq, St.pushSF_eq] <;> rfl

def efstoreF (ty : Tr TI) (S : St) (T : Tr AV) (t : TypeId) (a x : Operand) : Option (AV × St) :=
  match ty.get t, evF T a, evF T x with
    | some ti, some (.ptr (some (n, o))), some v => match S.heap.getF n with
      | some (.cells cs e mo) =>
        let vc := v.cells
        match Nat.beq vc.length ti.size && allOne vc with
        | true => match lay cs o vc with
          | some cs' => match S.setF n (some (.cells cs' e mo)) with
            | some S => some (undefA, S)
            | none => none
          | none => none
        | false => none
      | _ => none
    | _, _, _ => none

theorem efstoreF_eq (ty : Tr TI) (S : St) (T : Tr AV) (t : TypeId) (a x : Operand) : efstoreF ty S T t a x = efstore ty S T t a x := by
  simp only [efstoreF, efstore, evF_eq, Tr.getF_eq, St.setF_eq] <;> rfl

def efmapUpdateF (ty : Tr TI) (S : St) (T : Tr AV) (t : TypeId) (m k x : Operand) : Option (AV × St) :=
  match ty.get t, evF T m, evF T k, evF T x with
    | some ti, some (.map (some r)), some k, some v => match ti.kd with
      | .map kt _ => match plainKey ty 4 kt k, S.heap.getF r with
        | true, some (.map es clock) => match keyIn ty kt k es 0 with
          | some none => match S.setF r (some (.map (es ++ [(k, v, clock)]) (clock + 1))) with
            | some S => some (undefA, S)
            | none => none
          | _ => none
        | _, _ => none
      | _ => none
    | _, _, _, _ => none

theorem efmapUpdateF_eq (ty : Tr TI) (S : St) (T : Tr AV) (t : TypeId) (m k x : Operand) : efmapUpdateF ty S T t m k x = efmapUpdate ty S T t m k x := by
  simp only [efmapUpdateF, efmapUpdate, evF_eq, Tr.getF_eq, St.setF_eq] <;> rfl

def efconvertF (ty : Tr TI) (S : St) (T : Tr AV) (a d : TypeId) (x : Operand) : Option (AV × St) :=
  match ty.get a, ty.get d, evF T x with
    | some _, some td, some (.str l) => match td.kd with
      | .slice e => match ty.get e with
        | some te => match te.kd, Nat.ble l.length 1000000 with
          | .int .u8, true => S.pushSF (.cells (l.map fun b => .int .u8 (.ofNat b)) e (some (S.syms, te.size))) fun S' => some (.slice (some (S.next, 0)) l.length 0 (some S.syms), S')
          | _, _ => none
        | none => none
      | _ => none
    | _, _, _ => none

theorem efconvertF_eq (ty : Tr TI) (S : St) (T : Tr AV) (a d : TypeId) (x : Operand) : efconvertF ty S T a d x = efconvert ty S T a d x := by
  simp only [efconvertF, efconvert, evF_eq, St.pushSF_eq] <;> rfl

def efappendF (ty : Tr TI) (S : St) (T : Tr AV) (args : Array Operand) (argTypes : Array TypeId) : Option (AV × St) :=
  match argTypes.toList, args.toList with
    | [t, xt], [s, x] => match evF T s, evF T x with
      | some s, some x => appendAF ty S t xt s x
      | _, _ => none
    | _, _ => none

theorem efappendF_eq (ty : Tr TI) (S : St) (T : Tr AV) (args : Array Operand) (argTypes : Array TypeId) : efappendF ty S T args argTypes = efappend ty S T args argTypes := by
  simp only [efappendF, efappend, evF_eq, appendAF_eq] <;> rfl

def efcopyF (ty : Tr TI) (S : St) (T : Tr AV) (args : Array Operand) (argTypes : Array TypeId) : Option (AV × St) :=
  match argTypes.toList, args.toList with
    | t :: _, [d, x] => match ty.get t, evF T d, evF T x with
      | some ti, some (.slice base dl _ _), some x => match ti.kd, lenA x with
        | .slice e, some xl => match ty.get e with
          | some te =>
            match firstAF S.heap te.size (minA xl dl) x with
            | some cs => match minA xl dl, base with
              | 0, _ => some (.int .i64 0, S)
              | _ + 1, none => none
              | n + 1, some (b, o) => match S.heap.getF b with
                | some (.cells old el mo) => match lay old o cs, allOne cs with
                  | some l, true => match S.setF b (some (.cells l el mo)) with
                    | some S => some (.int .i64 (.ofNat (n + 1)), S)
                    | none => none
                  | _, _ => none
                | _ => none
            | none => none
          | none => none
        | _, _ => none
      | _, _, _ => none
    | _, _ => none

theorem efcopyF_eq (ty : Tr TI) (S : St) (T : Tr AV) (args : Array Operand) (argTypes : Array TypeId) : efcopyF ty S T args argTypes = efcopy ty S T args argTypes := by
  simp only [efcopyF, efcopy, evF_eq, Tr.getF_eq, firstAF_eq, St.setF_eq] <;> rfl

def calleeAF (T : Tr AV) (c : Call) : Option (FuncId × List AV) :=
  match c.callee with
  | .value f => match evF T f, evsF T c.args.toList with
    | some (.func (.func g) first captured), some args => some (g, first ++ args ++ captured)
    | _, _ => none
  | _ => none

theorem calleeAF_eq (T : Tr AV) (c : Call) : calleeAF T c = calleeA T c := by
  simp only [calleeAF, calleeA, evF_eq, evsF_eq] <;> rfl

end
end Go.Exe
