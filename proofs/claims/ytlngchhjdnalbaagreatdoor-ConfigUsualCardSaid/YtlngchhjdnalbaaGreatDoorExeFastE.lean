/- The executor by recursors: values and states compared (printed by gen_faste.py). -/
import Derived.Test.YtlngchhjdnalbaaGreatDoorExeFastD
set_option linter.unusedVariables false
set_option linter.unusedSimpArgs false
namespace Go.Exe
noncomputable section

def andF (a b : Bool) : Bool := Bool.rec (motive := fun _ => Bool → Bool) (fun _ => false) (fun b => b) a b
theorem andF_eq (a b : Bool) : andF a b = (a && b) := by cases a <;> rfl

def eqLF {α : Type} (f : α → α → Bool) (l m : List α) : Bool :=
  List.rec (motive := fun _ => (α → α → Bool) → List α → Bool)
    (fun _ m => List.rec (motive := fun _ => Bool) true (fun _ _ _ => false) m)
    (fun x _ ih f m => List.rec (motive := fun _ => ((α → α → Bool) → List α → Bool) → (α → α → Bool) → α → Bool)
      (fun _ _ _ => false)
      (fun y m _ ih f x => Bool.rec (motive := fun _ => ((α → α → Bool) → List α → Bool) → (α → α → Bool) → List α → Bool) (fun _ _ _ => false) (fun ih f m => ih f m) (f x y) ih f m)
      m ih f x)
    l f m
theorem eqLF_eq {α : Type} (f : α → α → Bool) : ∀ (l m : List α), eqLF f l m = eqL f l m
  | [], [] => rfl
  | [], _ :: _ => rfl
  | _ :: _, [] => rfl
  | x :: l, y :: m => by
    show Bool.rec (motive := fun _ => ((α → α → Bool) → List α → Bool) → (α → α → Bool) → List α → Bool) (fun _ _ _ => false) (fun ih f m => ih f m) (f x y) (fun f m => eqLF f l m) f m = _
    unfold eqL
    cases f x y with
    | false => rfl
    | true => exact eqLF_eq f l m

def eqOF {α : Type} (f : α → α → Bool) (a b : Option α) : Bool :=
  Option.rec (motive := fun _ => (α → α → Bool) → Option α → Bool)
    (fun _ b => Option.rec (motive := fun _ => Bool) true (fun _ => false) b)
    (fun x f b => Option.rec (motive := fun _ => (α → α → Bool) → α → Bool) (fun _ _ => false) (fun y f x => f x y) b f x)
    a f b
theorem eqOF_eq {α : Type} (f : α → α → Bool) (a b : Option α) : eqOF f a b = eqO f a b := by
  cases a <;> cases b <;> rfl

def eqPF (a b : Nat × Nat) : Bool := andF (Nat.beq a.1 b.1) (Nat.beq a.2 b.2)
theorem eqPF_eq (a b : Nat × Nat) : eqPF a b = eqP a b := andF_eq _ _

def eqFuncF (ih : AV → AV → Bool) (f : Fn) (a c : List AV) (y : AV) : Bool :=
  match f, y with
  | .func f, .func (.func g) a' c' => Nat.beq f g && eqL ih a a' && eqL ih c c'
  | _, _ => false

def eqStepF (ih : AV → AV → Bool) (x y : AV) : Bool :=
  AV.rec (motive_1 := fun _ => (AV → AV → Bool) → AV → Bool) (motive_2 := fun _ => Unit)
      (fun b ih y => AV.rec (motive_1 := fun _ => (AV → AV → Bool) → Bool → Bool) (motive_2 := fun _ => Unit)
          (fun b' ih b => Bool.rec (motive := fun _ => Bool → Bool) (fun y => Bool.rec (motive := fun _ => Bool) true false y) (fun y => y) b b')
          (fun _ _ _ _ => false)
          (fun _ _ _ => false)
          (fun _ _ _ => false)
          (fun _ _ _ _ _ _ => false)
          (fun _ _ _ => false)
          (fun _ _ _ _ _ _ _ => false)
          (fun _ _ => false)
          (fun _ _ _ _ _ => false)
          (fun _ _ => false)
          (fun _ _ _ _ => false)
          (fun _ _ _ _ => false)
          () (fun _ _ _ _ => ()) y ih b)
      (fun k n ih y => AV.rec (motive_1 := fun _ => (AV → AV → Bool) → IntKind → Int → Bool) (motive_2 := fun _ => Unit)
          (fun _ _ _ _ => false)
          (fun k' n' ih k n => andF (kindEq k k') (eqI n n'))
          (fun _ _ _ _ => false)
          (fun _ _ _ _ => false)
          (fun _ _ _ _ _ _ _ => false)
          (fun _ _ _ _ => false)
          (fun _ _ _ _ _ _ _ _ => false)
          (fun _ _ _ => false)
          (fun _ _ _ _ _ _ => false)
          (fun _ _ _ => false)
          (fun _ _ _ _ _ => false)
          (fun _ _ _ _ _ => false)
          () (fun _ _ _ _ => ()) y ih k n)
      (fun s ih y => AV.rec (motive_1 := fun _ => (AV → AV → Bool) → List Nat → Bool) (motive_2 := fun _ => Unit)
          (fun _ _ _ => false)
          (fun _ _ _ _ => false)
          (fun s' ih s => eqLF Nat.beq s s')
          (fun _ _ _ => false)
          (fun _ _ _ _ _ _ => false)
          (fun _ _ _ => false)
          (fun _ _ _ _ _ _ _ => false)
          (fun _ _ => false)
          (fun _ _ _ _ _ => false)
          (fun _ _ => false)
          (fun _ _ _ _ => false)
          (fun _ _ _ _ => false)
          () (fun _ _ _ _ => ()) y ih s)
      (fun a ih y => AV.rec (motive_1 := fun _ => (AV → AV → Bool) → Option (Nat × Nat) → Bool) (motive_2 := fun _ => Unit)
          (fun _ _ _ => false)
          (fun _ _ _ _ => false)
          (fun _ _ _ => false)
          (fun a' ih a => eqOF eqPF a a')
          (fun _ _ _ _ _ _ => false)
          (fun _ _ _ => false)
          (fun _ _ _ _ _ _ _ => false)
          (fun _ _ => false)
          (fun _ _ _ _ _ => false)
          (fun _ _ => false)
          (fun _ _ _ _ => false)
          (fun _ _ _ _ => false)
          () (fun _ _ _ _ => ()) y ih a)
      (fun a l r m ih y => AV.rec (motive_1 := fun _ => (AV → AV → Bool) → Option (Nat × Nat) → Nat → Nat → Option Nat → Bool) (motive_2 := fun _ => Unit)
          (fun _ _ _ _ _ _ => false)
          (fun _ _ _ _ _ _ _ => false)
          (fun _ _ _ _ _ _ => false)
          (fun _ _ _ _ _ _ => false)
          (fun a' l' r' m' ih a l r m => andF (eqOF eqPF a a') (andF (Nat.beq l l') (andF (Nat.beq r r') (eqOF Nat.beq m m'))))
          (fun _ _ _ _ _ _ => false)
          (fun _ _ _ _ _ _ _ _ _ _ => false)
          (fun _ _ _ _ _ => false)
          (fun _ _ _ _ _ _ _ _ => false)
          (fun _ _ _ _ _ => false)
          (fun _ _ _ _ _ _ _ => false)
          (fun _ _ _ _ _ _ _ => false)
          () (fun _ _ _ _ => ()) y ih a l r m)
      (fun r ih y => AV.rec (motive_1 := fun _ => (AV → AV → Bool) → Option Nat → Bool) (motive_2 := fun _ => Unit)
          (fun _ _ _ => false)
          (fun _ _ _ _ => false)
          (fun _ _ _ => false)
          (fun _ _ _ => false)
          (fun _ _ _ _ _ _ => false)
          (fun r' ih r => eqOF Nat.beq r r')
          (fun _ _ _ _ _ _ _ => false)
          (fun _ _ => false)
          (fun _ _ _ _ _ => false)
          (fun _ _ => false)
          (fun _ _ _ _ => false)
          (fun _ _ _ _ => false)
          () (fun _ _ _ _ => ()) y ih r)
      (fun f a c _ _ ih y => eqFuncF ih f a c y)
      (fun ih y => AV.rec (motive_1 := fun _ => Bool) (motive_2 := fun _ => Unit)
          (fun _ => false)
          (fun _ _ => false)
          (fun _ => false)
          (fun _ => false)
          (fun _ _ _ _ => false)
          (fun _ => false)
          (fun _ _ _ _ _ => false)
          true
          (fun _ _ _ => false)
          false
          (fun _ _ => false)
          (fun _ _ => false)
          () (fun _ _ _ _ => ()) y)
      (fun t v _ ih y => AV.rec (motive_1 := fun _ => (AV → AV → Bool) → TypeId → AV → Bool) (motive_2 := fun _ => Unit)
          (fun _ _ _ _ => false)
          (fun _ _ _ _ _ => false)
          (fun _ _ _ _ => false)
          (fun _ _ _ _ => false)
          (fun _ _ _ _ _ _ _ => false)
          (fun _ _ _ _ => false)
          (fun _ _ _ _ _ _ _ _ => false)
          (fun _ _ _ => false)
          (fun t' v' _ ih t v => andF (Nat.beq t t') (ih v v'))
          (fun _ _ _ => false)
          (fun _ _ _ _ _ => false)
          (fun _ _ _ _ _ => false)
          () (fun _ _ _ _ => ()) y ih t v)
      (fun ih y => AV.rec (motive_1 := fun _ => Bool) (motive_2 := fun _ => Unit)
          (fun _ => false)
          (fun _ _ => false)
          (fun _ => false)
          (fun _ => false)
          (fun _ _ _ _ => false)
          (fun _ => false)
          (fun _ _ _ _ _ => false)
          false
          (fun _ _ _ => false)
          true
          (fun _ _ => false)
          (fun _ _ => false)
          () (fun _ _ _ _ => ()) y)
      (fun cs _ ih y => AV.rec (motive_1 := fun _ => (AV → AV → Bool) → List AV → Bool) (motive_2 := fun _ => Unit)
          (fun _ _ _ => false)
          (fun _ _ _ _ => false)
          (fun _ _ _ => false)
          (fun _ _ _ => false)
          (fun _ _ _ _ _ _ => false)
          (fun _ _ _ => false)
          (fun _ _ _ _ _ _ _ => false)
          (fun _ _ => false)
          (fun _ _ _ _ _ => false)
          (fun _ _ => false)
          (fun cs' _ ih cs => eqLF ih cs cs')
          (fun _ _ _ _ => false)
          () (fun _ _ _ _ => ()) y ih cs)
      (fun vs _ ih y => AV.rec (motive_1 := fun _ => (AV → AV → Bool) → List AV → Bool) (motive_2 := fun _ => Unit)
          (fun _ _ _ => false)
          (fun _ _ _ _ => false)
          (fun _ _ _ => false)
          (fun _ _ _ => false)
          (fun _ _ _ _ _ _ => false)
          (fun _ _ _ => false)
          (fun _ _ _ _ _ _ _ => false)
          (fun _ _ => false)
          (fun _ _ _ _ _ => false)
          (fun _ _ => false)
          (fun _ _ _ _ => false)
          (fun vs' _ ih vs => eqLF ih vs vs')
          () (fun _ _ _ _ => ()) y ih vs)
      () (fun _ _ _ _ => ()) x ih y

def eqVF (d : Nat) (x y : AV) : Bool :=
  Nat.rec (motive := fun _ => AV → AV → Bool) (fun _ _ => false) (fun _ ih x y => eqStepF ih x y) d x y

theorem eqVF_eq : ∀ (d : Nat) (x y : AV), eqVF d x y = eqV d x y
  | 0, x, y => rfl
  | d + 1, x, y => by
    have ih : eqVF d = eqV d := funext fun x => funext fun y => eqVF_eq d x y
    show eqStepF (eqVF d) x y = _
    rw [ih]
    have hp : eqPF = eqP := funext fun a => funext fun b => eqPF_eq a b
    cases x with
    | bool a => cases y with
      | bool b => cases a <;> cases b <;> rfl
      | _ => rfl
    | int k n => cases y with
      | int k' n' => exact andF_eq _ _
      | _ => rfl
    | str s => cases y with
      | str s' => exact eqLF_eq _ _ _
      | _ => rfl
    | ptr a => cases y with
      | ptr a' => show eqOF eqPF a a' = _; rw [hp]; exact eqOF_eq _ _ _
      | _ => rfl
    | slice a l r m => cases y with
      | slice a' l' r' m' =>
        show andF (eqOF eqPF a a') (andF (Nat.beq l l') (andF (Nat.beq r r') (eqOF Nat.beq m m'))) = (eqO eqP a a' && Nat.beq l l' && Nat.beq r r' && eqO Nat.beq m m')
        rw [hp]
        simp only [andF_eq, eqOF_eq, Bool.and_assoc]
      | _ => rfl
    | map r => cases y with
      | map r' => exact eqOF_eq _ _ _
      | _ => rfl
    | func f a c => cases f <;> cases y <;> first | rfl | (rename_i g _ _; cases g <;> rfl)
    | nilFunc => cases y <;> rfl
    | iface t v => cases y with
      | iface t' v' => exact andF_eq _ _
      | _ => rfl
    | nilIface => cases y <;> rfl
    | agg cs => cases y with
      | agg cs' => exact eqLF_eq _ _ _
      | _ => rfl
    | tuple cs => cases y with
      | tuple cs' => exact eqLF_eq _ _ _
      | _ => rfl

def eqEF (a b : AV × AV × Nat) : Bool := andF (eqVF 5 a.1 b.1) (andF (eqVF 5 a.2.1 b.2.1) (Nat.beq a.2.2 b.2.2))
theorem eqEF_eq (a b : AV × AV × Nat) : eqEF a b = eqE a b := by
  simp only [eqEF, eqE, andF_eq, eqVF_eq, Bool.and_assoc]

def eqObjF (a b : AObj) : Bool :=
  AObj.rec (motive := fun _ => AObj → Bool)
    (fun cs e m b => AObj.rec (motive := fun _ => List AV → TypeId → Option (Nat × Nat) → Bool)
      (fun cs' e' m' cs e m => andF (eqLF (eqVF 5) cs cs') (andF (Nat.beq e e') (eqOF eqPF m m')))
      (fun _ _ _ _ _ => false) b cs e m)
    (fun es c b => AObj.rec (motive := fun _ => List (AV × AV × Nat) → Nat → Bool)
      (fun _ _ _ _ _ => false)
      (fun es' c' es c => andF (eqLF eqEF es es') (Nat.beq c c')) b es c)
    a b
theorem eqObjF_eq (a b : AObj) : eqObjF a b = eqObj a b := by
  have hp : eqPF = eqP := funext fun a => funext fun b => eqPF_eq a b
  have he : eqEF = eqE := funext fun a => funext fun b => eqEF_eq a b
  have hv : eqVF 5 = eqV 5 := funext fun a => funext fun b => eqVF_eq 5 a b
  cases a with
  | cells cs e m => cases b with
    | cells cs' e' m' =>
      show andF (eqLF (eqVF 5) cs cs') (andF (Nat.beq e e') (eqOF eqPF m m')) = (eqL (eqV 5) cs cs' && Nat.beq e e' && eqO eqP m m')
      rw [hp, hv]
      simp only [andF_eq, eqLF_eq, eqOF_eq, Bool.and_assoc]
    | map _ _ => rfl
  | map es c => cases b with
    | cells _ _ _ => rfl
    | map es' c' =>
      show andF (eqLF eqEF es es') (Nat.beq c c') = (eqL eqE es es' && Nat.beq c c')
      rw [he]
      simp only [andF_eq, eqLF_eq]

def eqTrF {α : Type} (f : α → α → Bool) (a b : Tr α) : Bool :=
  Tr.rec (motive := fun _ => (α → α → Bool) → Tr α → Bool)
    (fun _ b => Tr.rec (motive := fun _ => Bool) true (fun _ _ _ _ _ => false) b)
    (fun _ v _ il ir f b => Tr.rec (motive := fun _ => ((α → α → Bool) → Tr α → Bool) → ((α → α → Bool) → Tr α → Bool) → Option α → (α → α → Bool) → Bool)
      (fun _ _ _ _ => false)
      (fun l' v' r' _ _ il ir v f => andF (eqOF f v v') (andF (il f l') (ir f r'))) b il ir v f)
    a f b
theorem eqTrF_eq {α : Type} (f : α → α → Bool) : ∀ (a b : Tr α), eqTrF f a b = eqTr f a b
  | .nil, .nil => rfl
  | .nil, .node _ _ _ => rfl
  | .node _ _ _, .nil => rfl
  | .node l v r, .node l' v' r' => by
    show andF (eqOF f v v') (andF (eqTrF f l l') (eqTrF f r r')) = _
    rw [eqTrF_eq f l l', eqTrF_eq f r r', eqOF_eq, andF_eq, andF_eq]
    show _ = (match eqO f v v' with
      | true => match eqTr f l l' with
        | true => eqTr f r r'
        | false => false
      | false => false)
    generalize eqO f v v' = a
    generalize eqTr f l l' = b
    cases a <;> cases b <;> rfl

def eqStF (S A B : St) : Bool :=
  Bool.rec (motive := fun _ => St → St → Bool)
    (fun A B => andF (Nat.beq A.next B.next) (andF (Nat.beq A.syms B.syms) (andF (Nat.beq A.ver B.ver) (eqTrF eqObjF A.heap B.heap))))
    (fun A B => Nat.beq A.next B.next)
    (andF (Nat.beq A.ver S.ver) (Nat.beq B.ver S.ver)) A B
theorem eqStF_eq (S A B : St) : eqStF S A B = eqSt S A B := by
  have ho : eqObjF = eqObj := funext fun a => funext fun b => eqObjF_eq a b
  unfold eqStF eqSt
  rw [andF_eq]
  cases Nat.beq A.ver S.ver <;> cases Nat.beq B.ver S.ver <;> simp only [andF_eq, Bool.and_assoc, ho, eqTrF_eq] <;> rfl
end
end Go.Exe
