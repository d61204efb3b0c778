/- The executor by recursors: the run. -/
import Derived.Test.YtlngchhjdnalbaaGreatDoorExeFastC
set_option linter.unusedVariables false
set_option linter.unusedSimpArgs false
namespace Go.Exe
noncomputable section

abbrev Rec := Nat → Task → St → Option Out

/-- Where it came to its end as usual, what follows; else nothing. -/
def thenF (r : Option Out) (k : Tr AV → St → Option Out) : Option Out :=
  Option.rec (motive := fun _ => (Tr AV → St → Option Out) → Option Out) (fun _ => none)
    (fun o => Out.rec (motive := fun _ => (Tr AV → St → Option Out) → Option Out)
      (fun e T S => AExit.rec (motive := fun _ => Tr AV → St → (Tr AV → St → Option Out) → Option Out)
        (fun T S k => k T S) (fun _ _ _ _ => none) (fun _ _ _ => none) e T S)
      (fun _ _ _ => none) o) r k

/-- Where it came to its end as usual, what follows; else what it came to. -/
def elseF (r : Option Out) (k : Tr AV → St → Option Out) : Option Out :=
  Option.rec (motive := fun _ => (Tr AV → St → Option Out) → Option Out) (fun _ => none)
    (fun o => Out.rec (motive := fun _ => (Tr AV → St → Option Out) → Option Out)
      (fun e T S => AExit.rec (motive := fun _ => Tr AV → St → (Tr AV → St → Option Out) → Option Out)
        (fun T S k => k T S) (fun id T S _ => some (.code (.exit id) T S)) (fun T S _ => some (.code .ret T S)) e T S)
      (fun v S _ => some (.call v S)) o) r k

/-- A value put into its slot. -/
def slotF (q : Bool) (nt : Nat) (T : Tr AV) (d : Option Tmp) (v : AV) (k : Tr AV → Option Out) : Option Out :=
  Option.rec (motive := fun _ => Bool → Nat → Tr AV → AV → (Tr AV → Option Out) → Option Out)
    (fun _ _ T _ k => k T)
    (fun d q nt T v k => Bool.rec (motive := fun _ => Tmp → Bool → Tr AV → AV → (Tr AV → Option Out) → Option Out)
      (fun _ _ _ _ _ => none)
      (fun d q T v k => fXF q v fun v => Tr.putF (Nat.succ d) T d (some v) k)
      (Nat.ble (Nat.succ d) nt) d q T v k)
    d q nt T v k

theorem slotF_eq (q : Bool) (nt : Nat) (T : Tr AV) (d : Option Tmp) (v : AV) (k : Tr AV → Option Out) :
    slotF q nt T d v k = match putT q nt T d v with | some T => k T | none => none := by
  cases d with
  | none => rfl
  | some d =>
    show Bool.rec (motive := fun _ => Tmp → Bool → Tr AV → AV → (Tr AV → Option Out) → Option Out)
      (fun _ _ _ _ _ => none)
      (fun d q T v k => fXF q v fun v => Tr.putF (Nat.succ d) T d (some v) k)
      (Nat.ble (Nat.succ d) nt) d q T v k = _
    unfold putT
    simp only [fX_eq, Tr.putK_eq]
    cases Nat.ble (d + 1) nt with
    | true =>
      show fXF q v (fun v => Tr.putF (Nat.succ d) T d (some v) k) = _
      simp only [fXF_eq, fX_eq, Tr.putF_eq, Tr.putK_eq]
    | false => rfl

def normF (S : St) (T : Tr AV) : Option Out := some (.code .normal T S)

def kSeq (rec : Rec) (nt : Nat) (b : Code) (T : Tr AV) (S : St) : Option Out := rec nt (.code b T) S
def kOps (rec : Rec) (nt : Nat) (all rest : List Oper) (T : Tr AV) (S : St) : Option Out := rec nt (.ops all rest T) S

/-- A block's end. -/
def leaveF (r : Option Out) (id : Nat) : Option Out :=
  Option.rec (motive := fun _ => Nat → Option Out) (fun _ => none)
    (fun o => Out.rec (motive := fun _ => Nat → Option Out)
      (fun e T S => AExit.rec (motive := fun _ => Tr AV → St → Nat → Option Out)
        (fun T S _ => some (.code .normal T S))
        (fun id' T S id => Bool.rec (motive := fun _ => Nat → Tr AV → St → Option Out)
          (fun id' T S => some (.code (.exit id') T S)) (fun _ T S => some (.code .normal T S)) (Nat.beq id' id) id' T S)
        (fun T S _ => some (.code .ret T S)) e T S)
      (fun v S _ => some (.call v S)) o) r id

/-- A test. -/
def testF (o : Option AV) (rec : Rec) (nt : Nat) (a b : Code) (T : Tr AV) (S : St) : Option Out :=
  Option.rec (motive := fun _ => Rec → Nat → Code → Code → Tr AV → St → Option Out) (fun _ _ _ _ _ _ => none)
    (fun v => AV.rec (motive_1 := fun _ => Rec → Nat → Code → Code → Tr AV → St → Option Out) (motive_2 := fun _ => Unit)
      (fun x rec nt a b T S => Bool.rec (motive := fun _ => Rec → Nat → Code → Code → Tr AV → St → Option Out)
        (fun rec nt _ b T S => rec nt (.code b T) S) (fun rec nt a _ T S => rec nt (.code a T) S) x rec nt a b T S)
      (fun _ _ _ _ _ _ _ _ => none)
      (fun _ _ _ _ _ _ _ => none)
      (fun _ _ _ _ _ _ _ => none)
      (fun _ _ _ _ _ _ _ _ _ _ => none)
      (fun _ _ _ _ _ _ _ => none)
      (fun _ _ _ _ _ _ _ _ _ _ _ => none)
      (fun _ _ _ _ _ _ => none)
      (fun _ _ _ _ _ _ _ _ _ => none)
      (fun _ _ _ _ _ _ => none)
      (fun _ _ _ _ _ _ _ _ => none)
      (fun _ _ _ _ _ _ _ _ => none)
      () (fun _ _ _ _ => ()) v)
    o rec nt a b T S

def codeF (c : Code) (T : Tr AV) (E : Env) (rec : Rec) (nt : Nat) (S : St) : Option Out :=
  Code.rec (motive := fun _ => Tr AV → Env → Rec → Nat → St → Option Out)
    (fun T _ _ _ S => some (.code .normal T S))
    (fun _ ops draw T _ rec nt S => Bool.rec (motive := fun _ => Array Oper → Tr AV → Rec → Nat → St → Option Out)
      (fun ops T rec nt S => rec nt (.ops ops.toList ops.toList T) S)
      (fun ops T rec nt S => Bool.rec (motive := fun _ => Array Oper → Tr AV → Rec → Nat → St → Option Out)
        (fun _ _ _ _ _ => none) (fun ops T rec nt S => rRegion rec nt T S ops) (noSel ops.toList) ops T rec nt S)
      draw ops T rec nt S)
    (fun a b _ _ T _ rec nt S => elseF (rec nt (.code a T) S) (kSeq rec nt b))
    (fun o a b _ _ T _ rec nt S => testF (evF T o) rec nt a b T S)
    (fun id b _ T _ rec nt S => leaveF (rec nt (.code b T) S) id)
    (fun b _ T _ rec nt S => elseF (rec nt (.code b T) S) (kSeq rec nt (.loop b)))
    (fun _ _ _ _ _ _ _ _ _ _ _ => none)
    (fun id T _ _ _ S => some (.code (.exit id) T S))
    (fun _ _ _ _ _ _ _ => none)
    (fun _ T _ _ _ S => some (.code .normal T S))
    (fun _ _ _ _ _ _ => none)
    (fun T _ _ _ S => some (.code .ret T S))
    (fun _ _ _ _ _ _ => none)
    c T E rec nt S

theorem thenF_eq (r : Option Out) (k : Tr AV → St → Option Out) : thenF r k = match (motive := Option Out → Option Out) r with | some (.code .normal T S) => k T S | _ => none := by
  cases r with
  | none => rfl
  | some o => cases o with
    | code e T S => cases e <;> rfl
    | call v S => rfl

theorem elseF_eq (r : Option Out) (k : Tr AV → St → Option Out) : elseF r k = match (motive := Option Out → Option Out) r with | some (.code .normal T S) => k T S | r => r := by
  cases r with
  | none => rfl
  | some o => cases o with
    | code e T S => cases e <;> rfl
    | call v S => rfl

theorem codeF_eq (E : Env) (rec : Rec) (nt : Nat) (T : Tr AV) (S : St) (c : Code) : codeF c T E rec nt S = rCode E rec nt T S c := by
  cases c with
  | seq a b => exact elseF_eq _ _
  | loop b => exact elseF_eq _ _
  | cond o a b =>
    show testF (evF T o) rec nt a b T S = _
    rw [evF_eq]
    unfold rCode
    simp only
    cases ev T o with
    | none => rfl
    | some v => cases v with
      | bool b => cases b <;> rfl
      | _ => rfl
  | block id b =>
    show leaveF (rec nt (.code b T) S) id = _
    unfold rCode
    simp only
    cases rec nt (.code b T) S with
    | none => rfl
    | some o => cases o with
      | call v S => rfl
      | code e T S => cases e with
        | exit id' =>
          show Bool.rec (motive := fun _ => Nat → Tr AV → St → Option Out)
            (fun id' T S => some (.code (.exit id') T S)) (fun _ T S => some (.code .normal T S)) (Nat.beq id' id) id' T S = _
          simp only
          cases Nat.beq id' id <;> rfl
        | _ => rfl
  | region id ops draw =>
    cases draw with
    | false => rfl
    | true =>
      show Bool.rec (motive := fun _ => Array Oper → Tr AV → Rec → Nat → St → Option Out)
        (fun _ _ _ _ _ => none) (fun ops T rec nt S => rRegion rec nt T S ops) (noSel ops.toList) ops T rec nt S = _
      unfold rCode
      simp only
      cases noSel ops.toList <;> rfl
  | _ => rfl

def opsF (all todo : List Oper) (T : Tr AV) (E : Env) (rec : Rec) (nt : Nat) (S : St) : Option Out :=
  List.rec (motive := fun _ => List Oper → Tr AV → Rec → Nat → St → Option Out)
    (fun _ T _ _ S => some (.code .normal T S))
    (fun o rest _ all T rec nt S => thenF (rec nt (.op all o none T) S) (kOps rec nt all rest))
    todo all T rec nt S

theorem opsF_eq (E : Env) (rec : Rec) (nt : Nat) (all todo : List Oper) (T : Tr AV) (S : St) : opsF all todo T E rec nt S = rOps rec nt all todo T S := by
  cases todo with
  | nil => rfl
  | cons o rest => exact thenF_eq _ _

/-- A call of a function. -/
def kCall (nt : Nat) (T : Tr AV) (dst : Option Tmp) (v : AV) (S : St) : Option Out := slotF false nt T dst v (normF S)

def backF (r : Option Out) (nt : Nat) (T : Tr AV) (dst : Option Tmp) : Option Out :=
  Option.rec (motive := fun _ => Nat → Tr AV → Option Tmp → Option Out) (fun _ _ _ => none)
    (fun o => Out.rec (motive := fun _ => Nat → Tr AV → Option Tmp → Option Out)
      (fun _ _ _ _ _ _ => none)
      (fun v S nt T dst => slotF false nt T dst v (normF S)) o) r nt T dst

def doCallF (E : Env) (rec : Rec) (nt : Nat) (T : Tr AV) (S : St) (dst : Option Tmp) (c : Call) : Option Out :=
  Option.rec (motive := fun _ => Rec → Nat → Tr AV → St → Option Tmp → Option Out) (fun _ _ _ _ _ => none)
    (fun p rec nt T S dst => Prod.rec (motive := fun _ => Rec → Nat → Tr AV → St → Option Tmp → Option Out)
      (fun f args rec nt T S dst => backF (rec nt (.call f args) S) nt T dst) p rec nt T S dst)
    (calleeAF T c) rec nt T S dst

theorem doCallF_eq (E : Env) (rec : Rec) (nt : Nat) (T : Tr AV) (S : St) (dst : Option Tmp) (c : Call) : doCallF E rec nt T S dst c = rCall E rec nt T S dst c := by
  unfold doCallF rCall
  rw [calleeAF_eq]
  cases calleeA T c with
  | none => rfl
  | some p =>
    obtain ⟨f, args⟩ := p
    show backF (rec nt (.call f args) S) nt T dst = _
    simp only
    cases rec nt (.call f args) S with
    | none => rfl
    | some o => cases o with
      | code e T S => rfl
      | call v S' =>
        show slotF false nt T dst v (normF S') = _
        rw [slotF_eq]
        rfl

/-- What an operation does that is no plain one. -/
def restF (E : Env) (rec : Rec) (nt : Nat) (dst : Option Tmp) (op : Op) (T : Tr AV) (S : St) : Option Out :=
  match op with
  | .call c => doCallF E rec nt T S dst c
  | .defer c => rDefer E nt T S dst c
  | _ => none

def effsF (E : Env) (rec : Rec) (nt : Nat) (dst : Option Tmp) (op : Op) (T : Tr AV) (S : St) : Option Out :=
  Option.rec (motive := fun _ => Env → Rec → Nat → Option Tmp → Op → Tr AV → St → Option Out)
    (fun E rec nt dst op T S => restF E rec nt dst op T S)
    (fun p _ _ nt dst _ T _ => Prod.rec (motive := fun _ => Nat → Option Tmp → Tr AV → Option Out)
      (fun v S nt dst T => slotF true nt T dst v (normF S)) p nt dst T)
    (effF E.ty S T op) E rec nt dst op T S

theorem effsF_eq (E : Env) (rec : Rec) (nt : Nat) (o : Oper) (T : Tr AV) (S : St) : effsF E rec nt o.dst o.op T S = rEff E rec nt o T S := by
  unfold effsF rEff
  rw [effF_eq]
  cases effOp E.ty S T o.op with
  | none =>
    show restF E rec nt o.dst o.op T S = _
    unfold restF
    simp only [doCallF_eq]
    rfl
  | some p =>
    obtain ⟨v, S'⟩ := p
    show slotF true nt T o.dst v (normF S') = _
    rw [slotF_eq]
    rfl

/-- A new object under the name given, or under the next. -/
def newF (nm : Option Nat) (ob : AObj) (S : St) (T : Tr AV) : Option Out :=
  Option.rec (motive := fun _ => AObj → St → Tr AV → Option Out)
    (fun ob S T => S.pushF ob fun S => some (.code .normal T S))
    (fun m ob S T => S.pushAtF m ob fun S => some (.code .normal T S))
    nm ob S T

def doneF (p : AV × Option AObj) (op : Op) (nt : Nat) (dst : Option Tmp) (nm : Option Nat) (T : Tr AV) (S : St) : Option Out :=
  Prod.rec (motive := fun _ => Op → Nat → Option Tmp → Option Nat → Tr AV → St → Option Out)
    (fun v ob op nt dst nm T S => Option.rec (motive := fun _ => AV → Op → Nat → Option Tmp → Option Nat → Tr AV → St → Option Out)
      (fun v op nt dst _ T S => slotF (fullA op) nt T dst v (normF S))
      (fun ob v op nt dst nm T S => slotF (fullA op) nt T dst v (newF nm ob S))
      ob v op nt dst nm T S)
    p op nt dst nm T S

def nameF (nm : Option Nat) (S : St) : Nat := Option.rec (motive := fun _ => St → Nat) (fun S => S.next) (fun m _ => m) nm S

def opF (all : List Oper) (o : Oper) (nm : Option Nat) (T : Tr AV) (E : Env) (rec : Rec) (nt : Nat) (S : St) : Option Out :=
  Oper.rec (motive := fun _ => List Oper → Option Nat → Tr AV → Env → Rec → Nat → St → Option Out)
    (fun dst op _ _ _ guard all nm T E rec nt S => Bool.rec (motive := fun _ => Option Tmp → Op → Option Nat → Tr AV → Env → Rec → Nat → St → Option Out)
      (fun dst _ _ T _ _ nt S => slotF false nt T dst undefA (normF S))
      (fun dst op nm T E rec nt S => Option.rec (motive := fun _ => Option Tmp → Op → Option Nat → Tr AV → Env → Rec → Nat → St → Option Out)
        (fun dst op _ T E rec nt S => effsF E rec nt dst op T S)
        (fun p dst op nm T _ _ nt S => doneF p op nt dst nm T S)
        (pureF E.ty S.heap (nameF nm S) T op) dst op nm T E rec nt S)
      (wantedF all T guard) dst op nm T E rec nt S)
    o all nm T E rec nt S

theorem opF_eq (E : Env) (rec : Rec) (nt : Nat) (all : List Oper) (o : Oper) (nm : Option Nat) (T : Tr AV) (S : St) : opF all o nm T E rec nt S = rOp E rec nt all o nm T S := by
  obtain ⟨dst, op, typ, pos, after, guard⟩ := o
  show Bool.rec (motive := fun _ => Option Tmp → Op → Option Nat → Tr AV → Env → Rec → Nat → St → Option Out)
      (fun dst _ _ T _ _ nt S => slotF false nt T dst undefA (normF S))
      (fun dst op nm T E rec nt S => Option.rec (motive := fun _ => Option Tmp → Op → Option Nat → Tr AV → Env → Rec → Nat → St → Option Out)
        (fun dst op _ T E rec nt S => effsF E rec nt dst op T S)
        (fun p dst op nm T _ _ nt S => doneF p op nt dst nm T S)
        (pureF E.ty S.heap (nameF nm S) T op) dst op nm T E rec nt S)
      (wantedF all T guard) dst op nm T E rec nt S = _
  unfold rOp
  simp only
  rw [wantedF_eq]
  cases wantedA all T guard with
  | false =>
    show slotF false nt T dst undefA (normF S) = _
    rw [slotF_eq]
    rfl
  | true =>
    show Option.rec (motive := fun _ => Option Tmp → Op → Option Nat → Tr AV → Env → Rec → Nat → St → Option Out)
        (fun dst op _ T E rec nt S => effsF E rec nt dst op T S)
        (fun p dst op nm T _ _ nt S => doneF p op nt dst nm T S)
        (pureF E.ty S.heap (nameF nm S) T op) dst op nm T E rec nt S = _
    rw [pureF_eq, show nameF nm S = (match nm with | some m => m | none => S.next) by cases nm <;> rfl]
    simp only
    cases pureOp E.ty S.heap (match nm with | some m => m | none => S.next) T op with
    | none => exact effsF_eq E rec nt ⟨dst, op, typ, pos, after, guard⟩ T S
    | some p =>
      obtain ⟨v, ob⟩ := p
      cases ob with
      | none =>
        show slotF (fullA op) nt T dst v (normF S) = _
        rw [slotF_eq]
        rfl
      | some ob =>
        show slotF (fullA op) nt T dst v (newF nm ob S) = _
        rw [slotF_eq]
        simp only
        cases putT (fullA op) nt T dst v with
        | none => rfl
        | some T =>
          show newF nm ob S T = _
          cases nm with
          | none => exact St.pushF_eq S ob (fun S => some (Out.code .normal T S))
          | some m => exact St.pushAtF_eq S m ob (fun S => some (Out.code .normal T S))

end
end Go.Exe
