/- The executor by recursors: regions, and the run. -/
import Derived.Test.YtlngchhjdnalbaaGreatDoorExeFastE
set_option linter.unusedVariables false
set_option linter.unusedSimpArgs false
namespace Go.Exe
noncomputable section

def sureF (v : AV) : Bool :=
  AV.rec (motive_1 := fun _ => Bool) (motive_2 := fun _ => Unit)
    (fun _ => true)
    (fun _ _ => true)
    (fun _ => true)
    (fun _ => true)
    (fun a0 a1 a2 a3 => AV.sure 5 (.slice a0 a1 a2 a3))
    (fun _ => true)
    (fun a0 a1 a2 _ _ => AV.sure 5 (.func a0 a1 a2))
    true
    (fun a0 a1 _ => AV.sure 5 (.iface a0 a1))
    true
    (fun a0 _ => AV.sure 5 (.agg a0))
    (fun a0 _ => AV.sure 5 (.tuple a0))
    () (fun _ _ _ _ => ()) v
theorem sureF_eq (v : AV) : sureF v = AV.sure 5 v := by cases v <;> rfl

def calmHF (ty : Tr TI) (h : Tr AObj) (all : List Oper) (T : Tr AV) (o : Oper) : Option AV :=
  Oper.rec (motive := fun _ => Tr TI → Tr AObj → List Oper → Tr AV → Option AV)
    (fun _ op _ _ _ guard ty h all T => Bool.rec (motive := fun _ => Op → Tr TI → Tr AObj → Tr AV → Option AV)
      (fun _ _ _ _ => some undefA)
      (fun op ty h T => Option.rec (motive := fun _ => Option AV) none
        (fun p => Prod.rec (motive := fun _ => Option AV) (fun v ob => Option.rec (motive := fun _ => AV → Option AV)
          (fun v => Bool.rec (motive := fun _ => AV → Option AV) (fun _ => none) (fun v => some v) (sureF v) v) (fun _ _ => none) ob v) p)
        (pureF ty h 0 T op))
      (wantedF all T guard) op ty h T)
    o ty h all T
theorem calmHF_eq (ty : Tr TI) (h : Tr AObj) (all : List Oper) (T : Tr AV) (o : Oper) : calmHF ty h all T o = calmH ty h all T o := by
  obtain ⟨dst, op, typ, pos, after, guard⟩ := o
  show Bool.rec (motive := fun _ => Op → Tr TI → Tr AObj → Tr AV → Option AV)
      (fun _ _ _ _ => some undefA)
      (fun op ty h T => Option.rec (motive := fun _ => Option AV) none
        (fun p => Prod.rec (motive := fun _ => Option AV) (fun v ob => Option.rec (motive := fun _ => AV → Option AV)
          (fun v => Bool.rec (motive := fun _ => AV → Option AV) (fun _ => none) (fun v => some v) (sureF v) v) (fun _ _ => none) ob v) p)
        (pureF ty h 0 T op))
      (wantedF all T guard) op ty h T = _
  unfold calmH
  simp only
  rw [wantedF_eq]
  cases wantedA all T guard with
  | false => rfl
  | true =>
    show Option.rec (motive := fun _ => Option AV) none
        (fun p => Prod.rec (motive := fun _ => Option AV) (fun v ob => Option.rec (motive := fun _ => AV → Option AV)
          (fun v => Bool.rec (motive := fun _ => AV → Option AV) (fun _ => none) (fun v => some v) (sureF v) v) (fun _ _ => none) ob v) p)
        (pureF ty h 0 T op) = _
    rw [pureF_eq]
    simp only
    cases pureOp ty h 0 T op with
    | none => rfl
    | some p =>
      obtain ⟨v, ob⟩ := p
      cases ob with
      | some _ => rfl
      | none =>
        show Bool.rec (motive := fun _ => AV → Option AV) (fun _ => none) (fun v => some v) (sureF v) v = _
        rw [sureF_eq]
        simp only
        cases AV.sure 5 v <;> rfl

def lateF (t : Tr AObj) (ty : Tr TI) (late : List Nat) (all : List Oper) (T : Tr AV) (i : Nat) (o : Oper) : Option AV :=
  Tr.rec (motive := fun _ => Tr TI → List Nat → List Oper → Tr AV → Nat → Oper → Option AV)
    (fun _ _ _ _ _ _ => none)
    (fun l v r _ _ ty late all T i o => Bool.rec (motive := fun _ => Tr AObj → Option AObj → Tr AObj → Tr TI → List Oper → Tr AV → Oper → Option AV)
      (fun l v r ty all T o => calmHF ty (.node l v r) all T o) (fun _ _ _ _ _ _ _ => none) (memN i late) l v r ty all T o)
    t ty late all T i o

def calmVF (ty : Tr TI) (H : Hold) (all : List Oper) (T : Tr AV) (i : Nat) (o : Oper) : Option AV :=
  Option.rec (motive := fun _ => Tr TI → Hold → List Oper → Tr AV → Nat → Oper → Option AV)
    (fun ty H all T i o => lateF H.tree ty H.late all T i o)
    (fun v _ _ _ _ _ _ => some v)
    (calmHF ty .nil all T o) ty H all T i o
theorem calmVF_eq (ty : Tr TI) (H : Hold) (all : List Oper) (T : Tr AV) (i : Nat) (o : Oper) : calmVF ty H all T i o = calmV ty H all T i o := by
  unfold calmVF calmV
  rw [calmHF_eq]
  cases calmH ty .nil all T o with
  | some v => rfl
  | none =>
    show lateF H.tree ty H.late all T i o = _
    simp only
    cases H.tree with
    | nil => rfl
    | node l v r =>
      show Bool.rec (motive := fun _ => Tr AObj → Option AObj → Tr AObj → Tr TI → List Oper → Tr AV → Oper → Option AV)
        (fun l v r ty all T o => calmHF ty (.node l v r) all T o) (fun _ _ _ _ _ _ _ => none) (memN i H.late) l v r ty all T o = _
      simp only
      cases memN i H.late with
      | true => rfl
      | false => exact calmHF_eq ..

def calmAF (ty : Tr TI) (H : Hold) (ops : Array Oper) (all : List Oper) (T : Tr AV) (todo l : List (Nat × Oper)) : Option (Nat × Oper × AV) :=
  List.rec (motive := fun _ => Tr TI → Hold → Array Oper → List Oper → Tr AV → List (Nat × Oper) → Option (Nat × Oper × AV))
    (fun _ _ _ _ _ _ => none)
    (fun p _ ih ty H ops all T todo => Prod.rec (motive := fun _ => (Tr TI → Hold → Array Oper → List Oper → Tr AV → List (Nat × Oper) → Option (Nat × Oper × AV)) → Tr TI → Hold → Array Oper → List Oper → Tr AV → List (Nat × Oper) → Option (Nat × Oper × AV))
      (fun i o ih ty H ops all T todo => Option.rec (motive := fun _ => Nat → Oper → (Tr TI → Hold → Array Oper → List Oper → Tr AV → List (Nat × Oper) → Option (Nat × Oper × AV)) → Tr TI → Hold → Array Oper → List Oper → Tr AV → List (Nat × Oper) → Option (Nat × Oper × AV))
        (fun _ _ ih ty H ops all T todo => ih ty H ops all T todo)
        (fun v i o ih ty H ops all T todo => Bool.rec (motive := fun _ => AV → Nat → Oper → (Tr TI → Hold → Array Oper → List Oper → Tr AV → List (Nat × Oper) → Option (Nat × Oper × AV)) → Tr TI → Hold → Array Oper → List Oper → Tr AV → List (Nat × Oper) → Option (Nat × Oper × AV))
          (fun _ _ _ ih ty H ops all T todo => ih ty H ops all T todo)
          (fun v i o _ _ _ _ _ _ _ => some (i, o, v))
          (freeA ops i o todo) v i o ih ty H ops all T todo)
        (calmVF ty H all T i o) i o ih ty H ops all T todo)
      p ih ty H ops all T todo)
    l ty H ops all T todo
theorem calmAF_eq (ty : Tr TI) (H : Hold) (ops : Array Oper) (all : List Oper) (T : Tr AV) (todo : List (Nat × Oper)) : ∀ (l : List (Nat × Oper)), calmAF ty H ops all T todo l = calmA ty H ops all T todo l
  | [] => rfl
  | (i, o) :: r => by
    have ih := calmAF_eq ty H ops all T todo r
    show Option.rec (motive := fun _ => Nat → Oper → (Tr TI → Hold → Array Oper → List Oper → Tr AV → List (Nat × Oper) → Option (Nat × Oper × AV)) → Tr TI → Hold → Array Oper → List Oper → Tr AV → List (Nat × Oper) → Option (Nat × Oper × AV))
        (fun _ _ ih ty H ops all T todo => ih ty H ops all T todo)
        (fun v i o ih ty H ops all T todo => Bool.rec (motive := fun _ => AV → Nat → Oper → (Tr TI → Hold → Array Oper → List Oper → Tr AV → List (Nat × Oper) → Option (Nat × Oper × AV)) → Tr TI → Hold → Array Oper → List Oper → Tr AV → List (Nat × Oper) → Option (Nat × Oper × AV))
          (fun _ _ _ ih ty H ops all T todo => ih ty H ops all T todo)
          (fun v i o _ _ _ _ _ _ _ => some (i, o, v))
          (freeA ops i o todo) v i o ih ty H ops all T todo)
        (calmVF ty H all T i o) i o (fun ty H ops all T todo => calmAF ty H ops all T todo r) ty H ops all T todo = _
    unfold calmA
    rw [calmVF_eq]
    cases calmV ty H all T i o with
    | none => exact ih
    | some v =>
      show Bool.rec (motive := fun _ => AV → Nat → Oper → (Tr TI → Hold → Array Oper → List Oper → Tr AV → List (Nat × Oper) → Option (Nat × Oper × AV)) → Tr TI → Hold → Array Oper → List Oper → Tr AV → List (Nat × Oper) → Option (Nat × Oper × AV))
          (fun _ _ _ ih ty H ops all T todo => ih ty H ops all T todo)
          (fun v i o _ _ _ _ _ _ _ => some (i, o, v))
          (freeA ops i o todo) v i o (fun ty H ops all T todo => calmAF ty H ops all T todo r) ty H ops all T todo = _
      simp only
      cases freeA ops i o todo with
      | true => rfl
      | false => exact ih

def allSameF (S : St) (T1 : Tr AV) (S1 : St) : List (Option Out) → Bool
  | [] => true
  | some (.code .normal T2 S2) :: r => match andF (eqTrF (eqVF 5) T1 T2) (eqStF S S1 S2) with
    | true => allSameF S T1 S1 r
    | false => false
  | _ :: _ => false
theorem allSameF_eq (S : St) (T1 : Tr AV) (S1 : St) : ∀ (l : List (Option Out)), allSameF S T1 S1 l = allSame S T1 S1 l
  | [] => rfl
  | none :: _ => rfl
  | some (.call _ _) :: _ => rfl
  | some (.code (.exit _) _ _) :: _ => rfl
  | some (.code .ret _ _) :: _ => rfl
  | some (.code .normal T2 S2) :: r => by
    have hv : eqVF 5 = eqV 5 := funext fun a => funext fun b => eqVF_eq 5 a b
    unfold allSameF allSame
    rw [andF_eq, eqTrF_eq, eqStF_eq, hv, allSameF_eq S T1 S1 r]
    rfl

def pickSameF (S : St) : List (Option Out) → Option Out
  | some (.code .normal T1 S1) :: r => match allSameF S T1 S1 r with
    | true => some (.code .normal T1 S1)
    | false => none
  | _ => none
theorem pickSameF_eq (S : St) (l : List (Option Out)) : pickSameF S l = pickSame S l := by
  unfold pickSameF pickSame
  simp only [allSameF_eq]
  rfl

def kAny (rec : Rec) (nt : Nat) (ops : Array Oper) (all : List Oper) (n base : Nat) (H : Hold) (todo : List (Nat × Oper)) (S : St) (T : Tr AV) : Option Out :=
  rec nt (.any ops all n base H todo T) S

def kAft (rec : Rec) (nt : Nat) (ops : Array Oper) (all : List Oper) (n base : Nat) (H : Hold) (todo : List (Nat × Oper)) (i : Nat) (T : Tr AV) (S : St) : Option Out :=
  match memN i H.late || keptA S.heap H.objs with
  | true => rec nt (.any ops all n base H (dropA i todo) T) S
  | false => none

def anyF (E : Env) (rec : Rec) (nt : Nat) (ops : Array Oper) (all : List Oper) (n base : Nat) (H : Hold) (todo : List (Nat × Oper)) (T : Tr AV) (S : St) : Option Out :=
  match todo with
  | [] => some (.code .normal T S)
  | _ :: _ => match calmAF E.ty H ops all T todo (readyA n todo todo) with
    | some (i, o, v) => slotF (fullA o.op) nt T o.dst v (kAny rec nt ops all n base H (dropA i todo) S)
    | none => pickSameF S ((readyA n todo todo).map fun p => thenF (rec nt (.op all p.2 (some (base + p.1)) T) S) (kAft rec nt ops all n base H todo p.1))

theorem anyF_eq (E : Env) (rec : Rec) (nt : Nat) (ops : Array Oper) (all : List Oper) (n base : Nat) (H : Hold) (todo : List (Nat × Oper)) (T : Tr AV) (S : St) :
    anyF E rec nt ops all n base H todo T S = rAny E rec nt ops all n base H todo T S := by
  unfold anyF rAny
  cases todo with
  | nil => rfl
  | cons p todo =>
    simp only [calmAF_eq, pickSameF_eq, slotF_eq, thenF_eq]
    rfl

def taskF (k : Task) (E : Env) (rec : Rec) (nt : Nat) (S : St) : Option Out :=
  Task.rec (motive := fun _ => Env → Rec → Nat → St → Option Out)
    (fun c T E rec nt S => codeF c T E rec nt S)
    (fun all todo T E rec nt S => opsF all todo T E rec nt S)
    (fun all o nm T E rec nt S => opF all o nm T E rec nt S)
    (fun ops all n base H todo T E rec nt S => anyF E rec nt ops all n base H todo T S)
    (fun f args E rec _ S => rFun E rec f args S)
    k E rec nt S

def runF (E : Env) (fuel nt : Nat) (k : Task) (S : St) : Option Out :=
  Nat.rec (motive := fun _ => Env → Nat → Task → St → Option Out) (fun _ _ _ _ => none)
    (fun _ ih E nt k S => taskF k E (ih E) nt S) fuel E nt k S

theorem runF_eq (E : Env) : ∀ (fuel nt : Nat) (k : Task) (S : St), runF E fuel nt k S = run E fuel nt k S
  | 0, _, _, _ => rfl
  | fuel + 1, nt, k, S => by
    have ih : (runF E fuel) = run E fuel := funext fun nt => funext fun k => funext fun S => runF_eq E fuel nt k S
    show taskF k E (runF E fuel) nt S = _
    rw [ih]
    unfold run
    cases k with
    | code c T => exact codeF_eq E _ nt T S c
    | ops all todo T => exact opsF_eq E _ nt all todo T S
    | op all o nm T => exact opF_eq E _ nt all o nm T S
    | any ops all n base H todo T => exact anyF_eq ..
    | call f args => rfl
end
end Go.Exe
