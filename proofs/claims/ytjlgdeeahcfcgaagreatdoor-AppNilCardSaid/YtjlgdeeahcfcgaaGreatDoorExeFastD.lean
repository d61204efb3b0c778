/- The executor by recursors: the run. The executor by recursors: values and states compared (printed by gen_faste.py). The executor by recursors: regions, and the run. -/
import Derived.Test.YtjlgdeeahcfcgaaGreatDoorExeFastA
set_option linter.unusedVariables false
set_option linter.unusedSimpArgs false
namespace Go.Exe
noncomputable section

abbrev Rec := Nat → Task → St → Option Out

/-- Where it came to its end as usual, what follows; else nothing. -/
def thenF (r : Option Out) (k : Tr AV → St → Option Out) : Option Out :=
  Option.rec (motive := fun _ => (Tr AV → St → Option Out) → Option Out) (fun _ => none)
    (fun o => Out.rec (motive := fun _ => (Tr AV → St → Option Out) → Option Out)
      (fun e T S => AExit.rec (motive := fun _ => Tr AV → St → (Tr AV → St → Option Out) → Option Out)
        (fun T S k => k T S) (fun _ _ _ _ => none) (fun _ _ _ => none) e T S)
      (fun _ _ _ => none) o) r k

/-- Where it came to its end as usual, what follows; else what it came to. -/
def elseF (r : Option Out) (k : Tr AV → St → Option Out) : Option Out :=
  Option.rec (motive := fun _ => (Tr AV → St → Option Out) → Option Out) (fun _ => none)
    (fun o => Out.rec (motive := fun _ => (Tr AV → St → Option Out) → Option Out)
      (fun e T S => AExit.rec (motive := fun _ => Tr AV → St → (Tr AV → St → Option Out) → Option Out)
        (fun T S k => k T S) (fun id T S _ => some (.code (.exit id) T S)) (fun T S _ => some (.code .ret T S)) e T S)
      (fun v S _ => some (.call v S)) o) r k

/-- A value put into its slot. -/
def slotF (m : Md) (nt : Nat) (T : Tr AV) (d : Option Tmp) (v : AV) (k : Tr AV → Option Out) : Option Out :=
  Option.rec (motive := fun _ => Md → Nat → Tr AV → AV → (Tr AV → Option Out) → Option Out)
    (fun _ _ T _ k => k T)
    (fun d m nt T v k => Bool.rec (motive := fun _ => Tmp → Md → Tr AV → AV → (Tr AV → Option Out) → Option Out)
      (fun _ _ _ _ _ => none)
      (fun d m T v k => fMF m v fun v => Tr.putF (Nat.succ d) T d (some v) k)
      (Nat.ble (Nat.succ d) nt) d m T v k)
    d m nt T v k

theorem slotF_eq (m : Md) (q : Bool) (nt : Nat) (T : Tr AV) (d : Option Tmp) (v : AV) (k : Tr AV → Option Out) :
    slotF m nt T d v k = match putT q nt T d v with | some T => k T | none => none := by
  cases d with
  | none => rfl
  | some d =>
    show Bool.rec (motive := fun _ => Tmp → Md → Tr AV → AV → (Tr AV → Option Out) → Option Out)
      (fun _ _ _ _ _ => none)
      (fun d m T v k => fMF m v fun v => Tr.putF (Nat.succ d) T d (some v) k)
      (Nat.ble (Nat.succ d) nt) d m T v k = _
    unfold putT
    simp only [fX_eq, Tr.putK_eq]
    cases Nat.ble (d + 1) nt with
    | true =>
      show fMF m v (fun v => Tr.putF (Nat.succ d) T d (some v) k) = _
      simp only [fMF_eq, Tr.putF_eq, Tr.putK_eq]
    | false => rfl

def normF (S : St) (T : Tr AV) : Option Out := some (.code .normal T S)

def kSeq (rec : Rec) (nt : Nat) (b : Code) (T : Tr AV) (S : St) : Option Out := rec nt (.code b T) S
def kOps (rec : Rec) (nt : Nat) (all rest : List Oper) (T : Tr AV) (S : St) : Option Out := rec nt (.ops all rest T) S

/-- A block's end. -/
def leaveF (r : Option Out) (id : Nat) : Option Out :=
  Option.rec (motive := fun _ => Nat → Option Out) (fun _ => none)
    (fun o => Out.rec (motive := fun _ => Nat → Option Out)
      (fun e T S => AExit.rec (motive := fun _ => Tr AV → St → Nat → Option Out)
        (fun T S _ => some (.code .normal T S))
        (fun id' T S id => Bool.rec (motive := fun _ => Nat → Tr AV → St → Option Out)
          (fun id' T S => some (.code (.exit id') T S)) (fun _ T S => some (.code .normal T S)) (Nat.beq id' id) id' T S)
        (fun T S _ => some (.code .ret T S)) e T S)
      (fun v S _ => some (.call v S)) o) r id

/-- A test. -/
def testF (o : Option AV) (rec : Rec) (nt : Nat) (a b : Code) (T : Tr AV) (S : St) : Option Out :=
  Option.rec (motive := fun _ => Rec → Nat → Code → Code → Tr AV → St → Option Out) (fun _ _ _ _ _ _ => none)
    (fun v => AV.rec (motive_1 := fun _ => Rec → Nat → Code → Code → Tr AV → St → Option Out) (motive_2 := fun _ => Unit)
      (fun x rec nt a b T S => Bool.rec (motive := fun _ => Rec → Nat → Code → Code → Tr AV → St → Option Out)
        (fun rec nt _ b T S => rec nt (.code b T) S) (fun rec nt a _ T S => rec nt (.code a T) S) x rec nt a b T S)
      (fun _ _ _ _ _ _ _ _ => none)
      (fun _ _ _ _ _ _ _ => none)
      (fun _ _ _ _ _ _ _ => none)
      (fun _ _ _ _ _ _ _ _ _ _ => none)
      (fun _ _ _ _ _ _ _ => none)
      (fun _ _ _ _ _ _ _ _ _ _ _ => none)
      (fun _ _ _ _ _ _ => none)
      (fun _ _ _ _ _ _ _ _ _ => none)
      (fun _ _ _ _ _ _ => none)
      (fun _ _ _ _ _ _ _ _ => none)
      (fun _ _ _ _ _ _ _ _ => none)
      () (fun _ _ _ _ => ()) v)
    o rec nt a b T S

theorem thenF_eq (r : Option Out) (k : Tr AV → St → Option Out) : thenF r k = match (motive := Option Out → Option Out) r with | some (.code .normal T S) => k T S | _ => none := by
  cases r with
  | none => rfl
  | some o => cases o with
    | code e T S => cases e <;> rfl
    | call v S => rfl

theorem elseF_eq (r : Option Out) (k : Tr AV → St → Option Out) : elseF r k = match (motive := Option Out → Option Out) r with | some (.code .normal T S) => k T S | r => r := by
  cases r with
  | none => rfl
  | some o => cases o with
    | code e T S => cases e <;> rfl
    | call v S => rfl

def opsF (all todo : List Oper) (T : Tr AV) (E : Env) (rec : Rec) (nt : Nat) (S : St) : Option Out :=
  List.rec (motive := fun _ => List Oper → Tr AV → Rec → Nat → St → Option Out)
    (fun _ T _ _ S => some (.code .normal T S))
    (fun o rest _ all T rec nt S => thenF (rec nt (.op all o none T) S) (kOps rec nt all rest))
    todo all T rec nt S

theorem opsF_eq (E : Env) (rec : Rec) (nt : Nat) (all todo : List Oper) (T : Tr AV) (S : St) : opsF all todo T E rec nt S = rOps rec nt all todo T S := by
  cases todo with
  | nil => rfl
  | cons o rest => exact thenF_eq _ _

/-- A call of a function. -/
def backF (r : Option Out) (nt : Nat) (T : Tr AV) (dst : Option Tmp) : Option Out :=
  Option.rec (motive := fun _ => Nat → Tr AV → Option Tmp → Option Out) (fun _ _ _ => none)
    (fun o => Out.rec (motive := fun _ => Nat → Tr AV → Option Tmp → Option Out)
      (fun _ _ _ _ _ _ => none)
      (fun v S nt T dst => slotF .small nt T dst v (normF S)) o) r nt T dst

def doCallF (E : Env) (rec : Rec) (nt : Nat) (T : Tr AV) (S : St) (dst : Option Tmp) (c : Call) : Option Out :=
  Option.rec (motive := fun _ => Rec → Nat → Tr AV → St → Option Tmp → Option Out) (fun _ _ _ _ _ => none)
    (fun p rec nt T S dst => Prod.rec (motive := fun _ => Rec → Nat → Tr AV → St → Option Tmp → Option Out)
      (fun f args rec nt T S dst => backF (rec nt (.call f args) S) nt T dst) p rec nt T S dst)
    (calleeAF T c) rec nt T S dst

theorem doCallF_eq (E : Env) (rec : Rec) (nt : Nat) (T : Tr AV) (S : St) (dst : Option Tmp) (c : Call) : doCallF E rec nt T S dst c = rCall E rec nt T S dst c := by
  unfold doCallF rCall
  rw [calleeAF_eq]
  cases calleeA T c with
  | none => rfl
  | some p =>
    obtain ⟨f, args⟩ := p
    show backF (rec nt (.call f args) S) nt T dst = _
    simp only
    cases rec nt (.call f args) S with
    | none => rfl
    | some o => cases o with
      | code e T S => rfl
      | call v S' =>
        show slotF .small nt T dst v (normF S') = _
        rw [slotF_eq _ false]
        rfl

/-- What an operation does that is no plain one. -/
def restF (E : Env) (rec : Rec) (nt : Nat) (dst : Option Tmp) (op : Op) (T : Tr AV) (S : St) : Option Out :=
  match op with
  | .call c => doCallF E rec nt T S dst c
  | .defer c => rDefer E nt T S dst c
  | _ => none

def effsF (E : Env) (rec : Rec) (nt : Nat) (dst : Option Tmp) (op : Op) (T : Tr AV) (S : St) : Option Out :=
  Option.rec (motive := fun _ => Env → Rec → Nat → Option Tmp → Op → Tr AV → St → Option Out)
    (fun E rec nt dst op T S => restF E rec nt dst op T S)
    (fun p _ _ nt dst _ T _ => Prod.rec (motive := fun _ => Nat → Option Tmp → Tr AV → Option Out)
      (fun v S nt dst T => slotF .small nt T dst v (normF S)) p nt dst T)
    (effF E.ty S T op) E rec nt dst op T S

theorem effsF_eq (E : Env) (rec : Rec) (nt : Nat) (o : Oper) (T : Tr AV) (S : St) : effsF E rec nt o.dst o.op T S = rEff E rec nt o T S := by
  unfold effsF rEff
  rw [effF_eq]
  cases effOp E.ty S T o.op with
  | none =>
    show restF E rec nt o.dst o.op T S = _
    unfold restF
    simp only [doCallF_eq]
    rfl
  | some p =>
    obtain ⟨v, S'⟩ := p
    show slotF .small nt T o.dst v (normF S') = _
    rw [slotF_eq _ true]
    rfl

/-- A new object under the name given, or under the next. -/
def newF (nm : Option Nat) (ob : AObj) (S : St) (T : Tr AV) : Option Out :=
  Option.rec (motive := fun _ => AObj → St → Tr AV → Option Out)
    (fun ob S T => S.pushF ob fun S => some (.code .normal T S))
    (fun m ob S T => S.pushAtF m ob fun S => some (.code .normal T S))
    nm ob S T

def doneF (p : AV × Option AObj) (op : Op) (nt : Nat) (dst : Option Tmp) (nm : Option Nat) (T : Tr AV) (S : St) : Option Out :=
  Prod.rec (motive := fun _ => Op → Nat → Option Tmp → Option Nat → Tr AV → St → Option Out)
    (fun v ob op nt dst nm T S => Option.rec (motive := fun _ => AV → Op → Nat → Option Tmp → Option Nat → Tr AV → St → Option Out)
      (fun v op nt dst _ T S => slotF (modeF op) nt T dst v (normF S))
      (fun ob v op nt dst nm T S => slotF (modeF op) nt T dst v (newF nm ob S))
      ob v op nt dst nm T S)
    p op nt dst nm T S

def nameF (nm : Option Nat) (S : St) : Nat := Option.rec (motive := fun _ => St → Nat) (fun S => S.next) (fun m _ => m) nm S

def opF (all : List Oper) (o : Oper) (nm : Option Nat) (T : Tr AV) (E : Env) (rec : Rec) (nt : Nat) (S : St) : Option Out :=
  Oper.rec (motive := fun _ => List Oper → Option Nat → Tr AV → Env → Rec → Nat → St → Option Out)
    (fun dst op _ _ _ guard all nm T E rec nt S => Bool.rec (motive := fun _ => Option Tmp → Op → Option Nat → Tr AV → Env → Rec → Nat → St → Option Out)
      (fun dst _ _ T _ _ nt S => slotF .raw nt T dst undefA (normF S))
      (fun dst op nm T E rec nt S => Option.rec (motive := fun _ => Option Tmp → Op → Option Nat → Tr AV → Env → Rec → Nat → St → Option Out)
        (fun dst op _ T E rec nt S => effsF E rec nt dst op T S)
        (fun p dst op nm T _ _ nt S => doneF p op nt dst nm T S)
        (pureF E.ty S.heap (nameF nm S) T op) dst op nm T E rec nt S)
      (wantedF all T guard) dst op nm T E rec nt S)
    o all nm T E rec nt S

theorem opF_eq (E : Env) (rec : Rec) (nt : Nat) (all : List Oper) (o : Oper) (nm : Option Nat) (T : Tr AV) (S : St) : opF all o nm T E rec nt S = rOp E rec nt all o nm T S := by
  obtain ⟨dst, op, typ, pos, after, guard⟩ := o
  show Bool.rec (motive := fun _ => Option Tmp → Op → Option Nat → Tr AV → Env → Rec → Nat → St → Option Out)
      (fun dst _ _ T _ _ nt S => slotF .raw nt T dst undefA (normF S))
      (fun dst op nm T E rec nt S => Option.rec (motive := fun _ => Option Tmp → Op → Option Nat → Tr AV → Env → Rec → Nat → St → Option Out)
        (fun dst op _ T E rec nt S => effsF E rec nt dst op T S)
        (fun p dst op nm T _ _ nt S => doneF p op nt dst nm T S)
        (pureF E.ty S.heap (nameF nm S) T op) dst op nm T E rec nt S)
      (wantedF all T guard) dst op nm T E rec nt S = _
  unfold rOp
  simp only
  rw [wantedF_eq]
  cases wantedA all T guard with
  | false =>
    show slotF .raw nt T dst undefA (normF S) = _
    rw [slotF_eq _ false]
    rfl
  | true =>
    show Option.rec (motive := fun _ => Option Tmp → Op → Option Nat → Tr AV → Env → Rec → Nat → St → Option Out)
        (fun dst op _ T E rec nt S => effsF E rec nt dst op T S)
        (fun p dst op nm T _ _ nt S => doneF p op nt dst nm T S)
        (pureF E.ty S.heap (nameF nm S) T op) dst op nm T E rec nt S = _
    rw [pureF_eq, show nameF nm S = (match nm with | some m => m | none => S.next) by cases nm <;> rfl]
    simp only
    cases pureOp E.ty S.heap (match nm with | some m => m | none => S.next) T op with
    | none => exact effsF_eq E rec nt ⟨dst, op, typ, pos, after, guard⟩ T S
    | some p =>
      obtain ⟨v, ob⟩ := p
      cases ob with
      | none =>
        show slotF (modeF op) nt T dst v (normF S) = _
        rw [slotF_eq _ (fullA op)]
        rfl
      | some ob =>
        show slotF (modeF op) nt T dst v (newF nm ob S) = _
        rw [slotF_eq _ (fullA op)]
        simp only
        cases putT (fullA op) nt T dst v with
        | none => rfl
        | some T =>
          show newF nm ob S T = _
          cases nm with
          | none => exact St.pushF_eq S ob (fun S => some (Out.code .normal T S))
          | some m => exact St.pushAtF_eq S m ob (fun S => some (Out.code .normal T S))

end
end Go.Exe
namespace Go.Exe
noncomputable section

def andF (a b : Bool) : Bool := Bool.rec (motive := fun _ => Bool → Bool) (fun _ => false) (fun b => b) a b
theorem andF_eq (a b : Bool) : andF a b = (a && b) := by cases a <;> rfl

def eqLF {α : Type} (f : α → α → Bool) (l m : List α) : Bool :=
  List.rec (motive := fun _ => (α → α → Bool) → List α → Bool)
    (fun _ m => List.rec (motive := fun _ => Bool) true (fun _ _ _ => false) m)
    (fun x _ ih f m => List.rec (motive := fun _ => ((α → α → Bool) → List α → Bool) → (α → α → Bool) → α → Bool)
      (fun _ _ _ => false)
      (fun y m _ ih f x => Bool.rec (motive := fun _ => ((α → α → Bool) → List α → Bool) → (α → α → Bool) → List α → Bool) (fun _ _ _ => false) (fun ih f m => ih f m) (f x y) ih f m)
      m ih f x)
    l f m
theorem eqLF_eq {α : Type} (f : α → α → Bool) : ∀ (l m : List α), eqLF f l m = eqL f l m
  | [], [] => rfl
  | [], _ :: _ => rfl
  | _ :: _, [] => rfl
  | x :: l, y :: m => by
    show Bool.rec (motive := fun _ => ((α → α → Bool) → List α → Bool) → (α → α → Bool) → List α → Bool) (fun _ _ _ => false) (fun ih f m => ih f m) (f x y) (fun f m => eqLF f l m) f m = _
    unfold eqL
    cases f x y with
    | false => rfl
    | true => exact eqLF_eq f l m

def eqOF {α : Type} (f : α → α → Bool) (a b : Option α) : Bool :=
  Option.rec (motive := fun _ => (α → α → Bool) → Option α → Bool)
    (fun _ b => Option.rec (motive := fun _ => Bool) true (fun _ => false) b)
    (fun x f b => Option.rec (motive := fun _ => (α → α → Bool) → α → Bool) (fun _ _ => false) (fun y f x => f x y) b f x)
    a f b
theorem eqOF_eq {α : Type} (f : α → α → Bool) (a b : Option α) : eqOF f a b = eqO f a b := by
  cases a <;> cases b <;> rfl

def eqPF (a b : Nat × Nat) : Bool := andF (Nat.beq a.1 b.1) (Nat.beq a.2 b.2)
theorem eqPF_eq (a b : Nat × Nat) : eqPF a b = eqP a b := andF_eq _ _

def eqFuncF (ih : AV → AV → Bool) (f : Fn) (a c : List AV) (y : AV) : Bool :=
  match f, y with
  | .func f, .func (.func g) a' c' => Nat.beq f g && eqL ih a a' && eqL ih c c'
  | .yield f, .func (.yield g) a' c' => Nat.beq f g && eqL ih a a' && eqL ih c c'
  | _, _ => false

def eqStepF (ih : AV → AV → Bool) (x y : AV) : Bool :=
  AV.rec (motive_1 := fun _ => (AV → AV → Bool) → AV → Bool) (motive_2 := fun _ => Unit)
      (fun b ih y => AV.rec (motive_1 := fun _ => (AV → AV → Bool) → Bool → Bool) (motive_2 := fun _ => Unit)
          (fun b' ih b => Bool.rec (motive := fun _ => Bool → Bool) (fun y => Bool.rec (motive := fun _ => Bool) true false y) (fun y => y) b b')
          (fun _ _ _ _ => false)
          (fun _ _ _ => false)
          (fun _ _ _ => false)
          (fun _ _ _ _ _ _ => false)
          (fun _ _ _ => false)
          (fun _ _ _ _ _ _ _ => false)
          (fun _ _ => false)
          (fun _ _ _ _ _ => false)
          (fun _ _ => false)
          (fun _ _ _ _ => false)
          (fun _ _ _ _ => false)
          () (fun _ _ _ _ => ()) y ih b)
      (fun k n ih y => AV.rec (motive_1 := fun _ => (AV → AV → Bool) → IntKind → Int → Bool) (motive_2 := fun _ => Unit)
          (fun _ _ _ _ => false)
          (fun k' n' ih k n => andF (kindEq k k') (eqI n n'))
          (fun _ _ _ _ => false)
          (fun _ _ _ _ => false)
          (fun _ _ _ _ _ _ _ => false)
          (fun _ _ _ _ => false)
          (fun _ _ _ _ _ _ _ _ => false)
          (fun _ _ _ => false)
          (fun _ _ _ _ _ _ => false)
          (fun _ _ _ => false)
          (fun _ _ _ _ _ => false)
          (fun _ _ _ _ _ => false)
          () (fun _ _ _ _ => ()) y ih k n)
      (fun s ih y => AV.rec (motive_1 := fun _ => (AV → AV → Bool) → List Nat → Bool) (motive_2 := fun _ => Unit)
          (fun _ _ _ => false)
          (fun _ _ _ _ => false)
          (fun s' ih s => eqLF Nat.beq s s')
          (fun _ _ _ => false)
          (fun _ _ _ _ _ _ => false)
          (fun _ _ _ => false)
          (fun _ _ _ _ _ _ _ => false)
          (fun _ _ => false)
          (fun _ _ _ _ _ => false)
          (fun _ _ => false)
          (fun _ _ _ _ => false)
          (fun _ _ _ _ => false)
          () (fun _ _ _ _ => ()) y ih s)
      (fun a ih y => AV.rec (motive_1 := fun _ => (AV → AV → Bool) → Option (Nat × Nat) → Bool) (motive_2 := fun _ => Unit)
          (fun _ _ _ => false)
          (fun _ _ _ _ => false)
          (fun _ _ _ => false)
          (fun a' ih a => eqOF eqPF a a')
          (fun _ _ _ _ _ _ => false)
          (fun _ _ _ => false)
          (fun _ _ _ _ _ _ _ => false)
          (fun _ _ => false)
          (fun _ _ _ _ _ => false)
          (fun _ _ => false)
          (fun _ _ _ _ => false)
          (fun _ _ _ _ => false)
          () (fun _ _ _ _ => ()) y ih a)
      (fun a l r m ih y => AV.rec (motive_1 := fun _ => (AV → AV → Bool) → Option (Nat × Nat) → Nat → Nat → Option Nat → Bool) (motive_2 := fun _ => Unit)
          (fun _ _ _ _ _ _ => false)
          (fun _ _ _ _ _ _ _ => false)
          (fun _ _ _ _ _ _ => false)
          (fun _ _ _ _ _ _ => false)
          (fun a' l' r' m' ih a l r m => andF (eqOF eqPF a a') (andF (Nat.beq l l') (andF (Nat.beq r r') (eqOF Nat.beq m m'))))
          (fun _ _ _ _ _ _ => false)
          (fun _ _ _ _ _ _ _ _ _ _ => false)
          (fun _ _ _ _ _ => false)
          (fun _ _ _ _ _ _ _ _ => false)
          (fun _ _ _ _ _ => false)
          (fun _ _ _ _ _ _ _ => false)
          (fun _ _ _ _ _ _ _ => false)
          () (fun _ _ _ _ => ()) y ih a l r m)
      (fun r ih y => AV.rec (motive_1 := fun _ => (AV → AV → Bool) → Option Nat → Bool) (motive_2 := fun _ => Unit)
          (fun _ _ _ => false)
          (fun _ _ _ _ => false)
          (fun _ _ _ => false)
          (fun _ _ _ => false)
          (fun _ _ _ _ _ _ => false)
          (fun r' ih r => eqOF Nat.beq r r')
          (fun _ _ _ _ _ _ _ => false)
          (fun _ _ => false)
          (fun _ _ _ _ _ => false)
          (fun _ _ => false)
          (fun _ _ _ _ => false)
          (fun _ _ _ _ => false)
          () (fun _ _ _ _ => ()) y ih r)
      (fun f a c _ _ ih y => eqFuncF ih f a c y)
      (fun ih y => AV.rec (motive_1 := fun _ => Bool) (motive_2 := fun _ => Unit)
          (fun _ => false)
          (fun _ _ => false)
          (fun _ => false)
          (fun _ => false)
          (fun _ _ _ _ => false)
          (fun _ => false)
          (fun _ _ _ _ _ => false)
          true
          (fun _ _ _ => false)
          false
          (fun _ _ => false)
          (fun _ _ => false)
          () (fun _ _ _ _ => ()) y)
      (fun t v _ ih y => AV.rec (motive_1 := fun _ => (AV → AV → Bool) → TypeId → AV → Bool) (motive_2 := fun _ => Unit)
          (fun _ _ _ _ => false)
          (fun _ _ _ _ _ => false)
          (fun _ _ _ _ => false)
          (fun _ _ _ _ => false)
          (fun _ _ _ _ _ _ _ => false)
          (fun _ _ _ _ => false)
          (fun _ _ _ _ _ _ _ _ => false)
          (fun _ _ _ => false)
          (fun t' v' _ ih t v => andF (Nat.beq t t') (ih v v'))
          (fun _ _ _ => false)
          (fun _ _ _ _ _ => false)
          (fun _ _ _ _ _ => false)
          () (fun _ _ _ _ => ()) y ih t v)
      (fun ih y => AV.rec (motive_1 := fun _ => Bool) (motive_2 := fun _ => Unit)
          (fun _ => false)
          (fun _ _ => false)
          (fun _ => false)
          (fun _ => false)
          (fun _ _ _ _ => false)
          (fun _ => false)
          (fun _ _ _ _ _ => false)
          false
          (fun _ _ _ => false)
          true
          (fun _ _ => false)
          (fun _ _ => false)
          () (fun _ _ _ _ => ()) y)
      (fun cs _ ih y => AV.rec (motive_1 := fun _ => (AV → AV → Bool) → List AV → Bool) (motive_2 := fun _ => Unit)
          (fun _ _ _ => false)
          (fun _ _ _ _ => false)
          (fun _ _ _ => false)
          (fun _ _ _ => false)
          (fun _ _ _ _ _ _ => false)
          (fun _ _ _ => false)
          (fun _ _ _ _ _ _ _ => false)
          (fun _ _ => false)
          (fun _ _ _ _ _ => false)
          (fun _ _ => false)
          (fun cs' _ ih cs => eqLF ih cs cs')
          (fun _ _ _ _ => false)
          () (fun _ _ _ _ => ()) y ih cs)
      (fun vs _ ih y => AV.rec (motive_1 := fun _ => (AV → AV → Bool) → List AV → Bool) (motive_2 := fun _ => Unit)
          (fun _ _ _ => false)
          (fun _ _ _ _ => false)
          (fun _ _ _ => false)
          (fun _ _ _ => false)
          (fun _ _ _ _ _ _ => false)
          (fun _ _ _ => false)
          (fun _ _ _ _ _ _ _ => false)
          (fun _ _ => false)
          (fun _ _ _ _ _ => false)
          (fun _ _ => false)
          (fun _ _ _ _ => false)
          (fun vs' _ ih vs => eqLF ih vs vs')
          () (fun _ _ _ _ => ()) y ih vs)
      () (fun _ _ _ _ => ()) x ih y

def eqVF (d : Nat) (x y : AV) : Bool :=
  Nat.rec (motive := fun _ => AV → AV → Bool) (fun _ _ => false) (fun _ ih x y => eqStepF ih x y) d x y

theorem eqVF_eq : ∀ (d : Nat) (x y : AV), eqVF d x y = eqV d x y
  | 0, x, y => rfl
  | d + 1, x, y => by
    have ih : eqVF d = eqV d := funext fun x => funext fun y => eqVF_eq d x y
    show eqStepF (eqVF d) x y = _
    rw [ih]
    have hp : eqPF = eqP := funext fun a => funext fun b => eqPF_eq a b
    cases x with
    | bool a => cases y with
      | bool b => cases a <;> cases b <;> rfl
      | _ => rfl
    | int k n => cases y with
      | int k' n' => exact andF_eq _ _
      | _ => rfl
    | str s => cases y with
      | str s' => exact eqLF_eq _ _ _
      | _ => rfl
    | ptr a => cases y with
      | ptr a' => show eqOF eqPF a a' = _; rw [hp]; exact eqOF_eq _ _ _
      | _ => rfl
    | slice a l r m => cases y with
      | slice a' l' r' m' =>
        show andF (eqOF eqPF a a') (andF (Nat.beq l l') (andF (Nat.beq r r') (eqOF Nat.beq m m'))) = (eqO eqP a a' && Nat.beq l l' && Nat.beq r r' && eqO Nat.beq m m')
        rw [hp]
        simp only [andF_eq, eqOF_eq, Bool.and_assoc]
      | _ => rfl
    | map r => cases y with
      | map r' => exact eqOF_eq _ _ _
      | _ => rfl
    | func f a c => cases f <;> cases y <;> first | rfl | (rename_i g _ _; cases g <;> rfl)
    | nilFunc => cases y <;> rfl
    | iface t v => cases y with
      | iface t' v' => exact andF_eq _ _
      | _ => rfl
    | nilIface => cases y <;> rfl
    | agg cs => cases y with
      | agg cs' => exact eqLF_eq _ _ _
      | _ => rfl
    | tuple cs => cases y with
      | tuple cs' => exact eqLF_eq _ _ _
      | _ => rfl

def eqEF (a b : AV × AV × Nat) : Bool := andF (eqVF 5 a.1 b.1) (andF (eqVF 5 a.2.1 b.2.1) (Nat.beq a.2.2 b.2.2))
theorem eqEF_eq (a b : AV × AV × Nat) : eqEF a b = eqE a b := by
  simp only [eqEF, eqE, andF_eq, eqVF_eq, Bool.and_assoc]

def eqObjF (a b : AObj) : Bool :=
  AObj.rec (motive := fun _ => AObj → Bool)
    (fun cs e m b => AObj.rec (motive := fun _ => List AV → TypeId → Option (Nat × Nat) → Bool)
      (fun cs' e' m' cs e m => andF (eqLF (eqVF 5) cs cs') (andF (Nat.beq e e') (eqOF eqPF m m')))
      (fun _ _ _ _ _ => false) (fun _ _ _ _ _ => false) (fun _ _ _ _ => false) b cs e m)
    (fun es c b => AObj.rec (motive := fun _ => List (AV × AV × Nat) → Nat → Bool)
      (fun _ _ _ _ _ => false)
      (fun es' c' es c => andF (eqLF eqEF es es') (Nat.beq c c')) (fun _ _ _ _ => false) (fun _ _ _ => false) b es c)
    (fun cs e b => AObj.rec (motive := fun _ => List AV → TypeId → Bool)
      (fun _ _ _ _ _ => false) (fun _ _ _ _ => false)
      (fun cs' e' cs e => andF (eqLF (eqVF 5) cs cs') (Nat.beq e e')) (fun _ _ _ => false) b cs e)
    (fun es b => AObj.rec (motive := fun _ => List (AV × AV × Nat) → Bool)
      (fun _ _ _ _ => false) (fun _ _ _ => false) (fun _ _ _ => false) (fun es' es => eqLF eqEF es es') b es)
    a b
theorem eqObjF_eq (a b : AObj) : eqObjF a b = eqObj a b := by
  have hp : eqPF = eqP := funext fun a => funext fun b => eqPF_eq a b
  have he : eqEF = eqE := funext fun a => funext fun b => eqEF_eq a b
  have hv : eqVF 5 = eqV 5 := funext fun a => funext fun b => eqVF_eq 5 a b
  cases a with
  | cells cs e m => cases b with
    | cells cs' e' m' =>
      show andF (eqLF (eqVF 5) cs cs') (andF (Nat.beq e e') (eqOF eqPF m m')) = (eqL (eqV 5) cs cs' && Nat.beq e e' && eqO eqP m m')
      rw [hp, hv]
      simp only [andF_eq, eqLF_eq, eqOF_eq, Bool.and_assoc]
    | map _ _ => rfl
    | stiff _ _ => rfl
    | look _ => rfl
  | look es => cases b with
    | cells _ _ _ => rfl
    | map _ _ => rfl
    | stiff _ _ => rfl
    | look es' =>
      show eqLF eqEF es es' = eqL eqE es es'
      rw [he]
      simp only [eqLF_eq]
  | stiff cs e => cases b with
    | cells _ _ _ => rfl
    | map _ _ => rfl
    | look _ => rfl
    | stiff cs' e' =>
      show andF (eqLF (eqVF 5) cs cs') (Nat.beq e e') = (eqL (eqV 5) cs cs' && Nat.beq e e')
      rw [hv]
      simp only [andF_eq, eqLF_eq]
  | map es c => cases b with
    | cells _ _ _ => rfl
    | stiff _ _ => rfl
    | look _ => rfl
    | map es' c' =>
      show andF (eqLF eqEF es es') (Nat.beq c c') = (eqL eqE es es' && Nat.beq c c')
      rw [he]
      simp only [andF_eq, eqLF_eq]

def eqTrF {α : Type} (f : α → α → Bool) (a b : Tr α) : Bool :=
  Tr.rec (motive := fun _ => (α → α → Bool) → Tr α → Bool)
    (fun _ b => Tr.rec (motive := fun _ => Bool) true (fun _ _ _ _ _ => false) b)
    (fun _ v _ il ir f b => Tr.rec (motive := fun _ => ((α → α → Bool) → Tr α → Bool) → ((α → α → Bool) → Tr α → Bool) → Option α → (α → α → Bool) → Bool)
      (fun _ _ _ _ => false)
      (fun l' v' r' _ _ il ir v f => andF (eqOF f v v') (andF (il f l') (ir f r'))) b il ir v f)
    a f b
theorem eqTrF_eq {α : Type} (f : α → α → Bool) : ∀ (a b : Tr α), eqTrF f a b = eqTr f a b
  | .nil, .nil => rfl
  | .nil, .node _ _ _ => rfl
  | .node _ _ _, .nil => rfl
  | .node l v r, .node l' v' r' => by
    show andF (eqOF f v v') (andF (eqTrF f l l') (eqTrF f r r')) = _
    rw [eqTrF_eq f l l', eqTrF_eq f r r', eqOF_eq, andF_eq, andF_eq]
    show _ = (match eqO f v v' with
      | true => match eqTr f l l' with
        | true => eqTr f r r'
        | false => false
      | false => false)
    generalize eqO f v v' = a
    generalize eqTr f l l' = b
    cases a <;> cases b <;> rfl

def eqStF (S A B : St) : Bool :=
  Bool.rec (motive := fun _ => St → St → Bool)
    (fun A B => andF (Nat.beq A.next B.next) (andF (Nat.beq A.syms B.syms) (andF (Nat.beq A.ver B.ver) (eqTrF eqObjF A.heap B.heap))))
    (fun A B => Nat.beq A.next B.next)
    (andF (Nat.beq A.ver S.ver) (Nat.beq B.ver S.ver)) A B
theorem eqStF_eq (S A B : St) : eqStF S A B = eqSt S A B := by
  have ho : eqObjF = eqObj := funext fun a => funext fun b => eqObjF_eq a b
  unfold eqStF eqSt
  rw [andF_eq]
  cases Nat.beq A.ver S.ver <;> cases Nat.beq B.ver S.ver <;> simp only [andF_eq, Bool.and_assoc, ho, eqTrF_eq] <;> rfl
end
end Go.Exe
namespace Go.Exe
noncomputable section

def sureF (v : AV) : Bool :=
  AV.rec (motive_1 := fun _ => Bool) (motive_2 := fun _ => Unit)
    (fun _ => true)
    (fun _ _ => true)
    (fun _ => true)
    (fun _ => true)
    (fun a0 a1 a2 a3 => AV.sure 5 (.slice a0 a1 a2 a3))
    (fun _ => true)
    (fun a0 a1 a2 _ _ => AV.sure 5 (.func a0 a1 a2))
    true
    (fun a0 a1 _ => AV.sure 5 (.iface a0 a1))
    true
    (fun a0 _ => AV.sure 5 (.agg a0))
    (fun a0 _ => AV.sure 5 (.tuple a0))
    () (fun _ _ _ _ => ()) v
theorem sureF_eq (v : AV) : sureF v = AV.sure 5 v := by cases v <;> rfl

/-! What is held fast. -/
def nameAddF (v : AV) (l : List Nat) : List Nat :=
  AV.rec (motive_1 := fun _ => List Nat → List Nat) (motive_2 := fun _ => Unit)
    (fun _ l => l)
    (fun _ _ l => l)
    (fun _ l => l)
    (fun a l => Option.rec (motive := fun _ => List Nat → List Nat) (fun l => l) (fun p l => addN p.1 l) a l)
    (fun a _ _ _ l => Option.rec (motive := fun _ => List Nat → List Nat) (fun l => l) (fun p l => addN p.1 l) a l)
    (fun _ l => l)
    (fun _ _ _ _ _ l => l)
    (fun l => l)
    (fun _ _ _ l => l)
    (fun l => l)
    (fun _ _ l => l)
    (fun _ _ l => l)
    () (fun _ _ _ _ => ()) v l
theorem nameAddF_eq (v : AV) (l : List Nat) : nameAddF v l = addNs (namesV v) l := by
  cases v with
  | ptr a => cases a <;> rfl
  | slice a n r m => cases a <;> rfl
  | _ => rfl

def namesInF (cs : List AV) (l : List Nat) : List Nat :=
  List.rec (motive := fun _ => List Nat → List Nat) (fun l => l) (fun v _ ih l => nameAddF v (ih l)) cs l
theorem namesInF_eq : ∀ (cs : List AV) (l : List Nat), namesInF cs l = cs.foldr (fun v l => addNs (namesV v) l) l
  | [], _ => rfl
  | v :: cs, l => by
    show nameAddF v (namesInF cs l) = _
    rw [nameAddF_eq, namesInF_eq cs l]
    rfl

def insideF (h : Tr AObj) : List Nat → List Nat → List Nat
  | [], l => l
  | n :: r, l => match h.getF n with
    | some (.cells cs _ _) => insideF h r (namesInF cs l)
    | _ => insideF h r l
theorem insideF_eq (h : Tr AObj) : ∀ (r l : List Nat), insideF h r l = inside h r l
  | [], _ => rfl
  | n :: r, l => by
    unfold insideF inside
    rw [Tr.getF_eq]
    simp only [namesInF_eq, insideF_eq h r]
    rfl

def allSureF (l : List AV) : Bool :=
  List.rec (motive := fun _ => Bool) true (fun v _ ih => Bool.rec (motive := fun _ => Bool → Bool) (fun _ => false) (fun b => b) (sureF v) ih) l
theorem allSureF_eq : ∀ (l : List AV), allSureF l = l.all (AV.sure 5)
  | [] => rfl
  | v :: l => by
    show Bool.rec (motive := fun _ => Bool → Bool) (fun _ => false) (fun b => b) (sureF v) (allSureF l) = _
    rw [sureF_eq, allSureF_eq l, List.all_cons]
    cases AV.sure 5 v <;> rfl
def sureObjF (o : AObj) : Bool :=
  AObj.rec (motive := fun _ => Bool) (fun cs _ _ => allSureF cs) (fun _ _ => false) (fun _ _ => false) (fun _ => false) o
theorem sureObjF_eq (o : AObj) : sureObjF o = sureObj o := by
  cases o with
  | cells cs e m => exact allSureF_eq cs
  | map _ _ => rfl
  | stiff _ _ => rfl
  | look _ => rfl

def keptF (h : Tr AObj) : List (Nat × AObj) → Bool
  | [] => true
  | (n, o) :: r => match h.getF n with
    | some o' => match eqObjF o o' with
      | true => keptF h r
      | false => false
    | none => false
theorem keptF_eq (h : Tr AObj) : ∀ (l : List (Nat × AObj)), keptF h l = keptA h l
  | [] => rfl
  | (n, o) :: r => by
    unfold keptF keptA
    rw [Tr.getF_eq]
    simp only [eqObjF_eq, keptF_eq h r]
    rfl

def sureAllF : List (Nat × AObj) → Bool
  | [] => true
  | (_, o) :: r => match sureObjF o with
    | true => sureAllF r
    | false => false
theorem sureAllF_eq : ∀ (l : List (Nat × AObj)), sureAllF l = sureAll l
  | [] => rfl
  | (_, o) :: r => by
    unfold sureAllF sureAll
    rw [sureObjF_eq, sureAllF_eq r]
    rfl

def pickObjsF (h : Tr AObj) : List Nat → List (Nat × AObj)
  | [] => []
  | n :: r => match h.getF n with
    | some o => match sureObjF o with
      | true => (n, o) :: pickObjsF h r
      | false => pickObjsF h r
    | none => pickObjsF h r
theorem pickObjsF_eq (h : Tr AObj) : ∀ (l : List Nat), pickObjsF h l = pickObjs h l
  | [] => rfl
  | n :: r => by
    unfold pickObjsF pickObjs
    rw [Tr.getF_eq]
    simp only [sureObjF_eq, pickObjsF_eq h r]
    rfl

def holdF (wide : Bool) (T : Tr AV) (h : Tr AObj) (ops : List Oper) : Option Hold :=
  match anyOp isLoad ops, anyOp isCall ops with
  | true, true => match pickObjsF h (match wide with | true => insideF h (roots wide T ops) (roots wide T ops) | false => roots wide T ops), lateOf (numA ops 0) with
    | objs, late => match sureAllF objs, keptF h objs, lateOk late (numA ops 0) (numA ops 0) with
      | true, true, true => some ⟨objs, treeOf objs, late⟩
      | _, _, _ => none
  | _, _ => none
theorem holdF_eq (wide : Bool) (T : Tr AV) (h : Tr AObj) (ops : List Oper) : holdF wide T h ops = holdA wide T h ops := by
  unfold holdF holdA
  simp only [pickObjsF_eq, insideF_eq, sureAllF_eq, keptF_eq]
  rfl

def regionF (rec : Rec) (nt : Nat) (T : Tr AV) (S : St) (ops : Array Oper) : Option Out :=
  match S with
  | ⟨h, n, y, r⟩ => fNF (n + ops.toList.length) fun n' => match rHeld rec nt T ⟨h, n', y, r⟩ ops n (holdF true T h ops.toList) with
    | some out => some out
    | none => match rHeld rec nt T ⟨h, n', y, r⟩ ops n (holdF false T h ops.toList) with
      | some out => some out
      | none => rec nt (.any ops ops.toList ops.toList.length n Hold.none (numA ops.toList 0) T) ⟨h, n', y, r⟩
theorem regionF_eq (rec : Rec) (nt : Nat) (T : Tr AV) (S : St) (ops : Array Oper) : regionF rec nt T S ops = rRegion rec nt T S ops := by
  obtain ⟨h, n, y, r⟩ := S
  unfold regionF rRegion
  simp only [fNF_eq, fN_eq, holdF_eq]
  rfl

def calmHF (ty : Tr TI) (h : Tr AObj) (all : List Oper) (T : Tr AV) (o : Oper) : Option AV :=
  Oper.rec (motive := fun _ => Tr TI → Tr AObj → List Oper → Tr AV → Option AV)
    (fun _ op _ _ _ guard ty h all T => Bool.rec (motive := fun _ => Op → Tr TI → Tr AObj → Tr AV → Option AV)
      (fun _ _ _ _ => some undefA)
      (fun op ty h T => Option.rec (motive := fun _ => Option AV) none
        (fun p => Prod.rec (motive := fun _ => Option AV) (fun v ob => Option.rec (motive := fun _ => AV → Option AV)
          (fun v => Bool.rec (motive := fun _ => AV → Option AV) (fun _ => none) (fun v => some v) (sureF v) v) (fun _ _ => none) ob v) p)
        (pureF ty h 0 T op))
      (wantedF all T guard) op ty h T)
    o ty h all T
theorem calmHF_eq (ty : Tr TI) (h : Tr AObj) (all : List Oper) (T : Tr AV) (o : Oper) : calmHF ty h all T o = calmH ty h all T o := by
  obtain ⟨dst, op, typ, pos, after, guard⟩ := o
  show Bool.rec (motive := fun _ => Op → Tr TI → Tr AObj → Tr AV → Option AV)
      (fun _ _ _ _ => some undefA)
      (fun op ty h T => Option.rec (motive := fun _ => Option AV) none
        (fun p => Prod.rec (motive := fun _ => Option AV) (fun v ob => Option.rec (motive := fun _ => AV → Option AV)
          (fun v => Bool.rec (motive := fun _ => AV → Option AV) (fun _ => none) (fun v => some v) (sureF v) v) (fun _ _ => none) ob v) p)
        (pureF ty h 0 T op))
      (wantedF all T guard) op ty h T = _
  unfold calmH
  simp only
  rw [wantedF_eq]
  cases wantedA all T guard with
  | false => rfl
  | true =>
    show Option.rec (motive := fun _ => Option AV) none
        (fun p => Prod.rec (motive := fun _ => Option AV) (fun v ob => Option.rec (motive := fun _ => AV → Option AV)
          (fun v => Bool.rec (motive := fun _ => AV → Option AV) (fun _ => none) (fun v => some v) (sureF v) v) (fun _ _ => none) ob v) p)
        (pureF ty h 0 T op) = _
    rw [pureF_eq]
    simp only
    cases pureOp ty h 0 T op with
    | none => rfl
    | some p =>
      obtain ⟨v, ob⟩ := p
      cases ob with
      | some _ => rfl
      | none =>
        show Bool.rec (motive := fun _ => AV → Option AV) (fun _ => none) (fun v => some v) (sureF v) v = _
        rw [sureF_eq]
        simp only
        cases AV.sure 5 v <;> rfl

def lateF (t : Tr AObj) (ty : Tr TI) (late : List Nat) (all : List Oper) (T : Tr AV) (i : Nat) (o : Oper) : Option AV :=
  Tr.rec (motive := fun _ => Tr TI → List Nat → List Oper → Tr AV → Nat → Oper → Option AV)
    (fun _ _ _ _ _ _ => none)
    (fun l v r _ _ ty late all T i o => Bool.rec (motive := fun _ => Tr AObj → Option AObj → Tr AObj → Tr TI → List Oper → Tr AV → Oper → Option AV)
      (fun l v r ty all T o => calmHF ty (.node l v r) all T o) (fun _ _ _ _ _ _ _ => none) (memN i late) l v r ty all T o)
    t ty late all T i o

def calmVF (ty : Tr TI) (H : Hold) (all : List Oper) (T : Tr AV) (i : Nat) (o : Oper) : Option AV :=
  Option.rec (motive := fun _ => Tr TI → Hold → List Oper → Tr AV → Nat → Oper → Option AV)
    (fun ty H all T i o => lateF H.tree ty H.late all T i o)
    (fun v _ _ _ _ _ _ => some v)
    (calmHF ty .nil all T o) ty H all T i o
theorem calmVF_eq (ty : Tr TI) (H : Hold) (all : List Oper) (T : Tr AV) (i : Nat) (o : Oper) : calmVF ty H all T i o = calmV ty H all T i o := by
  unfold calmVF calmV
  rw [calmHF_eq]
  cases calmH ty .nil all T o with
  | some v => rfl
  | none =>
    show lateF H.tree ty H.late all T i o = _
    simp only
    cases H.tree with
    | nil => rfl
    | node l v r =>
      show Bool.rec (motive := fun _ => Tr AObj → Option AObj → Tr AObj → Tr TI → List Oper → Tr AV → Oper → Option AV)
        (fun l v r ty all T o => calmHF ty (.node l v r) all T o) (fun _ _ _ _ _ _ _ => none) (memN i H.late) l v r ty all T o = _
      simp only
      cases memN i H.late with
      | true => rfl
      | false => exact calmHF_eq ..

def calmAF (ty : Tr TI) (H : Hold) (ops : Array Oper) (all : List Oper) (T : Tr AV) (todo l : List (Nat × Oper)) : Option (Nat × Oper × AV) :=
  List.rec (motive := fun _ => Tr TI → Hold → Array Oper → List Oper → Tr AV → List (Nat × Oper) → Option (Nat × Oper × AV))
    (fun _ _ _ _ _ _ => none)
    (fun p _ ih ty H ops all T todo => Prod.rec (motive := fun _ => (Tr TI → Hold → Array Oper → List Oper → Tr AV → List (Nat × Oper) → Option (Nat × Oper × AV)) → Tr TI → Hold → Array Oper → List Oper → Tr AV → List (Nat × Oper) → Option (Nat × Oper × AV))
      (fun i o ih ty H ops all T todo => Option.rec (motive := fun _ => Nat → Oper → (Tr TI → Hold → Array Oper → List Oper → Tr AV → List (Nat × Oper) → Option (Nat × Oper × AV)) → Tr TI → Hold → Array Oper → List Oper → Tr AV → List (Nat × Oper) → Option (Nat × Oper × AV))
        (fun _ _ ih ty H ops all T todo => ih ty H ops all T todo)
        (fun v i o ih ty H ops all T todo => Bool.rec (motive := fun _ => AV → Nat → Oper → (Tr TI → Hold → Array Oper → List Oper → Tr AV → List (Nat × Oper) → Option (Nat × Oper × AV)) → Tr TI → Hold → Array Oper → List Oper → Tr AV → List (Nat × Oper) → Option (Nat × Oper × AV))
          (fun _ _ _ ih ty H ops all T todo => ih ty H ops all T todo)
          (fun v i o _ _ _ _ _ _ _ => some (i, o, v))
          (freeA ops i o todo) v i o ih ty H ops all T todo)
        (calmVF ty H all T i o) i o ih ty H ops all T todo)
      p ih ty H ops all T todo)
    l ty H ops all T todo
theorem calmAF_eq (ty : Tr TI) (H : Hold) (ops : Array Oper) (all : List Oper) (T : Tr AV) (todo : List (Nat × Oper)) : ∀ (l : List (Nat × Oper)), calmAF ty H ops all T todo l = calmA ty H ops all T todo l
  | [] => rfl
  | (i, o) :: r => by
    have ih := calmAF_eq ty H ops all T todo r
    show Option.rec (motive := fun _ => Nat → Oper → (Tr TI → Hold → Array Oper → List Oper → Tr AV → List (Nat × Oper) → Option (Nat × Oper × AV)) → Tr TI → Hold → Array Oper → List Oper → Tr AV → List (Nat × Oper) → Option (Nat × Oper × AV))
        (fun _ _ ih ty H ops all T todo => ih ty H ops all T todo)
        (fun v i o ih ty H ops all T todo => Bool.rec (motive := fun _ => AV → Nat → Oper → (Tr TI → Hold → Array Oper → List Oper → Tr AV → List (Nat × Oper) → Option (Nat × Oper × AV)) → Tr TI → Hold → Array Oper → List Oper → Tr AV → List (Nat × Oper) → Option (Nat × Oper × AV))
          (fun _ _ _ ih ty H ops all T todo => ih ty H ops all T todo)
          (fun v i o _ _ _ _ _ _ _ => some (i, o, v))
          (freeA ops i o todo) v i o ih ty H ops all T todo)
        (calmVF ty H all T i o) i o (fun ty H ops all T todo => calmAF ty H ops all T todo r) ty H ops all T todo = _
    unfold calmA
    rw [calmVF_eq]
    cases calmV ty H all T i o with
    | none => exact ih
    | some v =>
      show Bool.rec (motive := fun _ => AV → Nat → Oper → (Tr TI → Hold → Array Oper → List Oper → Tr AV → List (Nat × Oper) → Option (Nat × Oper × AV)) → Tr TI → Hold → Array Oper → List Oper → Tr AV → List (Nat × Oper) → Option (Nat × Oper × AV))
          (fun _ _ _ ih ty H ops all T todo => ih ty H ops all T todo)
          (fun v i o _ _ _ _ _ _ _ => some (i, o, v))
          (freeA ops i o todo) v i o (fun ty H ops all T todo => calmAF ty H ops all T todo r) ty H ops all T todo = _
      simp only
      cases freeA ops i o todo with
      | true => rfl
      | false => exact ih

def allSameF (S : St) (T1 : Tr AV) (S1 : St) : List (Option Out) → Bool
  | [] => true
  | some (.code .normal T2 S2) :: r => match andF (eqTrF (eqVF 5) T1 T2) (eqStF S S1 S2) with
    | true => allSameF S T1 S1 r
    | false => false
  | _ :: _ => false
theorem allSameF_eq (S : St) (T1 : Tr AV) (S1 : St) : ∀ (l : List (Option Out)), allSameF S T1 S1 l = allSame S T1 S1 l
  | [] => rfl
  | none :: _ => rfl
  | some (.call _ _) :: _ => rfl
  | some (.code (.exit _) _ _) :: _ => rfl
  | some (.code .ret _ _) :: _ => rfl
  | some (.code .normal T2 S2) :: r => by
    have hv : eqVF 5 = eqV 5 := funext fun a => funext fun b => eqVF_eq 5 a b
    unfold allSameF allSame
    rw [andF_eq, eqTrF_eq, eqStF_eq, hv, allSameF_eq S T1 S1 r]
    rfl

def pickSameF (S : St) : List (Option Out) → Option Out
  | some (.code .normal T1 S1) :: r => match allSameF S T1 S1 r with
    | true => some (.code .normal T1 S1)
    | false => none
  | _ => none
theorem pickSameF_eq (S : St) (l : List (Option Out)) : pickSameF S l = pickSame S l := by
  unfold pickSameF pickSame
  simp only [allSameF_eq]
  rfl

def kAny (rec : Rec) (nt : Nat) (ops : Array Oper) (all : List Oper) (n base : Nat) (H : Hold) (todo : List (Nat × Oper)) (S : St) (T : Tr AV) : Option Out :=
  rec nt (.any ops all n base H todo T) S

def kAft (rec : Rec) (nt : Nat) (ops : Array Oper) (all : List Oper) (n base : Nat) (H : Hold) (todo : List (Nat × Oper)) (i : Nat) (T : Tr AV) (S : St) : Option Out :=
  match memN i H.late || keptF S.heap H.objs with
  | true => rec nt (.any ops all n base H (dropA i todo) T) S
  | false => none

def anyF (E : Env) (rec : Rec) (nt : Nat) (ops : Array Oper) (all : List Oper) (n base : Nat) (H : Hold) (todo : List (Nat × Oper)) (T : Tr AV) (S : St) : Option Out :=
  match todo with
  | [] => some (.code .normal T S)
  | _ :: _ => match calmAF E.ty H ops all T todo (readyA n todo todo) with
    | some (i, o, v) => slotF (modeF o.op) nt T o.dst v (kAny rec nt ops all n base H (dropA i todo) S)
    | none => pickSameF S ((readyA n todo todo).map fun p => thenF (rec nt (.op all p.2 (some (base + p.1)) T) S) (kAft rec nt ops all n base H todo p.1))

theorem anyF_eq (E : Env) (rec : Rec) (nt : Nat) (ops : Array Oper) (all : List Oper) (n base : Nat) (H : Hold) (todo : List (Nat × Oper)) (T : Tr AV) (S : St) :
    anyF E rec nt ops all n base H todo T S = rAny E rec nt ops all n base H todo T S := by
  unfold anyF rAny
  cases todo with
  | nil => rfl
  | cons p todo =>
    simp only [calmAF_eq, pickSameF_eq, thenF_eq]
    cases calmA E.ty H ops all T (p :: todo) (readyA n (p :: todo) (p :: todo)) with
    | none =>
      simp only [kAft, keptF_eq]
      rfl
    | some q => exact slotF_eq _ (fullA q.2.1.op) _ _ _ _ _

def codeF (c : Code) (T : Tr AV) (E : Env) (rec : Rec) (nt : Nat) (S : St) : Option Out :=
  Code.rec (motive := fun _ => Tr AV → Env → Rec → Nat → St → Option Out)
    (fun T _ _ _ S => some (.code .normal T S))
    (fun _ ops draw T _ rec nt S => Bool.rec (motive := fun _ => Array Oper → Tr AV → Rec → Nat → St → Option Out)
      (fun ops T rec nt S => rec nt (.ops ops.toList ops.toList T) S)
      (fun ops T rec nt S => Bool.rec (motive := fun _ => Array Oper → Tr AV → Rec → Nat → St → Option Out)
        (fun _ _ _ _ _ => none) (fun ops T rec nt S => regionF rec nt T S ops) (noSel ops.toList) ops T rec nt S)
      draw ops T rec nt S)
    (fun a b _ _ T _ rec nt S => elseF (rec nt (.code a T) S) (kSeq rec nt b))
    (fun o a b _ _ T _ rec nt S => testF (evF T o) rec nt a b T S)
    (fun id b _ T _ rec nt S => leaveF (rec nt (.code b T) S) id)
    (fun b _ T _ rec nt S => elseF (rec nt (.code b T) S) (kSeq rec nt (.loop b)))
    (fun _ _ _ _ _ _ _ _ _ _ _ => none)
    (fun id T _ _ _ S => some (.code (.exit id) T S))
    (fun _ _ _ _ _ _ _ => none)
    (fun _ T _ _ _ S => some (.code .normal T S))
    (fun _ _ _ _ _ _ => none)
    (fun T _ _ _ S => some (.code .ret T S))
    (fun _ _ _ _ _ _ => none)
    c T E rec nt S

theorem codeF_eq (E : Env) (rec : Rec) (nt : Nat) (T : Tr AV) (S : St) (c : Code) : codeF c T E rec nt S = rCode E rec nt T S c := by
  cases c with
  | seq a b => exact elseF_eq _ _
  | loop b => exact elseF_eq _ _
  | cond o a b =>
    show testF (evF T o) rec nt a b T S = _
    rw [evF_eq]
    unfold rCode
    simp only
    cases ev T o with
    | none => rfl
    | some v => cases v with
      | bool b => cases b <;> rfl
      | _ => rfl
  | block id b =>
    show leaveF (rec nt (.code b T) S) id = _
    unfold rCode
    simp only
    cases rec nt (.code b T) S with
    | none => rfl
    | some o => cases o with
      | call v S => rfl
      | code e T S => cases e with
        | exit id' =>
          show Bool.rec (motive := fun _ => Nat → Tr AV → St → Option Out)
            (fun id' T S => some (.code (.exit id') T S)) (fun _ T S => some (.code .normal T S)) (Nat.beq id' id) id' T S = _
          simp only
          cases Nat.beq id' id <;> rfl
        | _ => rfl
  | region id ops draw =>
    cases draw with
    | false => rfl
    | true =>
      show Bool.rec (motive := fun _ => Array Oper → Tr AV → Rec → Nat → St → Option Out)
        (fun _ _ _ _ _ => none) (fun ops T rec nt S => regionF rec nt T S ops) (noSel ops.toList) ops T rec nt S = _
      unfold rCode
      simp only
      cases noSel ops.toList with
      | false => rfl
      | true => exact regionF_eq rec nt T S ops
  | _ => rfl

/-! A function entered. -/
def argsF (l : List AV) (i : Nat) (T : Tr AV) (k : Tr AV → Option Out) : Option Out :=
  List.rec (motive := fun _ => Nat → Tr AV → (Tr AV → Option Out) → Option Out) (fun _ T k => k T)
    (fun v _ ih i T k => Tr.putF (Nat.succ i) T i (some v) fun T => ih (Nat.succ i) T k) l i T k
theorem argsF_eq : ∀ (l : List AV) (i : Nat) (T : Tr AV) (k : Tr AV → Option Out), argsF l i T k = argsT l i T k
  | [], _, _, _ => rfl
  | v :: l, i, T, k => by
    show (Tr.putF (Nat.succ i) T i (some v) fun T => argsF l (Nat.succ i) T k) = _
    unfold argsT
    rw [Tr.putF_eq, Tr.putK_eq, fW_eq, Tr.putK_eq, argsF_eq l]

def resF (ty : Tr TI) (h : Tr AObj) (T : Tr AV) : List ResultVar → Option (List AV)
  | [] => some []
  | .tmp t :: rs => match T.getF t with
    | some v => match resF ty h T rs with
      | some l => some (v :: l)
      | none => none
    | none => none
  | .cell a t :: rs => match T.getF a, ty.get t with
    | some (.ptr (some (n, o))), some ti => match h.getF n with
      | some (.cells cs _ _) => match partAF ti.kd.isAgg ti.size cs o with
        | some v => match resF ty h T rs with
          | some l => some (v :: l)
          | none => none
        | none => none
      | _ => none
    | _, _ => none
theorem resF_eq (ty : Tr TI) (h : Tr AObj) (T : Tr AV) : ∀ (l : List ResultVar), resF ty h T l = resA ty h T l
  | [] => rfl
  | .tmp t :: rs => by
    unfold resF resA
    simp only [Tr.getF_eq, resF_eq ty h T rs]
    rfl
  | .cell a t :: rs => by
    unfold resF resA
    simp only [Tr.getF_eq, partAF_eq, resF_eq ty h T rs]
    rfl

def funF (E : Env) (rec : Rec) (f : FuncId) (args : List AV) (S : St) : Option Out :=
  match E.known f args S.heap with
  | some (some v) => fV 5 v fun v => some (.call v S)
  | some none => none
  | none => match E.fn.get f with
    | none => none
    | some fn => match fn.body with
      | none => none
      | some c => match Nat.ble args.length fn.ntmps with
        | false => none
        | true => argsF args 0 .nil fun T => match rec fn.ntmps (.code c T) S with
          | some (.code .normal T S) => match resF E.ty S.heap T fn.results.toList with
            | some vs => some (.call (oneA vs) S)
            | none => none
          | some (.code .ret T S) => match resF E.ty S.heap T fn.results.toList with
            | some vs => some (.call (oneA vs) S)
            | none => none
          | _ => none
theorem funF_eq (E : Env) (rec : Rec) (f : FuncId) (args : List AV) (S : St) : funF E rec f args S = rFun E rec f args S := by
  unfold funF rFun
  simp only [argsF_eq, resF_eq]
  rfl

abbrev Cr := FuncId → List AV → St → Option Out

def taskF (k : Task) (E : Env) (cr : Cr) (rec : Rec) (nt : Nat) (S : St) : Option Out :=
  Task.rec (motive := fun _ => Env → Cr → Rec → Nat → St → Option Out)
    (fun c T E _ rec nt S => codeF c T E rec nt S)
    (fun all todo T E _ rec nt S => opsF all todo T E rec nt S)
    (fun all o nm T E _ rec nt S => opF all o nm T E rec nt S)
    (fun ops all n base H todo T E _ rec nt S => anyF E rec nt ops all n base H todo T S)
    (fun f args _ cr _ _ S => cr f args S)
    k E cr rec nt S

def runF (E : Env) (cr : Cr) (fuel nt : Nat) (k : Task) (S : St) : Option Out :=
  Nat.rec (motive := fun _ => Env → Cr → Nat → Task → St → Option Out) (fun _ _ _ _ _ => none)
    (fun _ ih E cr nt k S => taskF k E cr (ih E cr) nt S) fuel E cr nt k S

theorem runF_eq (E : Env) (cr : Cr) : ∀ (fuel nt : Nat) (k : Task) (S : St), runF E cr fuel nt k S = run E cr fuel nt k S
  | 0, _, _, _ => rfl
  | fuel + 1, nt, k, S => by
    have ih : (runF E cr fuel) = run E cr fuel := funext fun nt => funext fun k => funext fun S => runF_eq E cr fuel nt k S
    show taskF k E cr (runF E cr fuel) nt S = _
    rw [ih]
    unfold run
    cases k with
    | code c T => exact codeF_eq E _ nt T S c
    | ops all todo T => exact opsF_eq E _ nt all todo T S
    | op all o nm T => exact opF_eq E _ nt all o nm T S
    | any ops all n base H todo T => exact anyF_eq ..
    | call f args => rfl

def callsF (E : Env) (memo : Cr) (N d : Nat) (f : FuncId) (args : List AV) (S : St) : Option Out :=
  Nat.rec (motive := fun _ => Env → Cr → Nat → FuncId → List AV → St → Option Out) (fun _ _ _ _ _ _ => none)
    (fun _ ih E memo N f args S => Option.rec (motive := fun _ => (Env → Cr → Nat → FuncId → List AV → St → Option Out) → Env → Cr → Nat → FuncId → List AV → St → Option Out)
      (fun ih E memo N f args S => funF E (runF E (ih E memo N) N) f args S)
      (fun out _ _ _ _ _ _ _ => some out)
      (memo f args S) ih E memo N f args S) d E memo N f args S

theorem callsF_eq (E : Env) (memo : Cr) (N : Nat) : ∀ (d : Nat) (f : FuncId) (args : List AV) (S : St), callsF E memo N d f args S = calls E memo N d f args S
  | 0, _, _, _ => rfl
  | d + 1, f, args, S => by
    have ih : callsF E memo N d = calls E memo N d := funext fun f => funext fun args => funext fun S => callsF_eq E memo N d f args S
    show Option.rec (motive := fun _ => (Env → Cr → Nat → FuncId → List AV → St → Option Out) → Env → Cr → Nat → FuncId → List AV → St → Option Out)
      (fun ih E memo N f args S => funF E (runF E (ih E memo N) N) f args S)
      (fun out _ _ _ _ _ _ _ => some out)
      (memo f args S) (fun E memo N f args S => callsF E memo N d f args S) E memo N f args S = _
    unfold calls
    cases memo f args S with
    | some out => rfl
    | none =>
      show funF E (runF E (callsF E memo N d) N) f args S = _
      rw [ih, funF_eq, show runF E (calls E memo N d) N = run E (calls E memo N d) N from funext fun nt => funext fun k => funext fun S => runF_eq E _ N nt k S]
end
end Go.Exe
