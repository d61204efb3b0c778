/- The executor once more, written by recursors whose cases are closed: the same functions, cheaper for the kernel. First: trees, values, operands. The executor by recursors: the operations (printed by gen_fast.py out of ExeDef). The executor by recursors: what an operation comes to (printed by gen_fastc.py). -/
import Derived.Test.YtjlgdeeahcfcgaaGreatDoorExeEq
set_option linter.unusedVariables false
set_option linter.unusedSimpArgs false
namespace Go.Exe
noncomputable section

def Tr.getF {α : Type} (t : Tr α) (n : Nat) : Option α :=
  Tr.rec (motive := fun _ => Nat → Option α) (fun _ => none)
    (fun _ v _ gl gr n => Nat.rec (motive := fun _ => (Nat → Option α) → (Nat → Option α) → Option α → Option α)
      (fun _ _ v => v)
      (fun m _ gl gr _ => Nat.rec (motive := fun _ => (Nat → Option α) → (Nat → Option α) → Nat → Option α)
        (fun gl _ k => gl k) (fun _ _ _ gr k => gr k) (Nat.mod m 2) gl gr (Nat.div m 2))
      n gl gr v) t n

theorem Tr.getF_eq {α : Type} : ∀ (t : Tr α) (n : Nat), t.getF n = t.get n
  | .nil, n => by cases n <;> rfl
  | .node l v r, 0 => rfl
  | .node l v r, m + 1 => by
    have hl := Tr.getF_eq l (m / 2)
    have hr := Tr.getF_eq r (m / 2)
    unfold Tr.get
    simp only
    rw [← hl, ← hr]
    show (Nat.rec (motive := fun _ => (Nat → Option α) → (Nat → Option α) → Nat → Option α)
        (fun gl _ k => gl k) (fun _ _ _ gr k => gr k) (m % 2) l.getF r.getF (m / 2)) = _
    cases m % 2 <;> rfl

/-- As Tr.putK, by recursors. -/
def Tr.putF {α β : Type} (f : Nat) (t : Tr α) (n : Nat) (x : Option α) (k : Tr α → β) : β :=
  Nat.rec (motive := fun _ => Tr α → Nat → Option α → (Tr α → β) → β)
    (fun t _ _ k => k t)
    (fun _ ih t n x k => Tr.rec (motive := fun _ => (Tr α → Nat → Option α → (Tr α → β) → β) → Nat → Option α → (Tr α → β) → β)
      (fun ih n x k => Nat.rec (motive := fun _ => (Tr α → Nat → Option α → (Tr α → β) → β) → Option α → (Tr α → β) → β)
        (fun _ x k => k (.node .nil x .nil))
        (fun m _ ih x k => Nat.rec (motive := fun _ => (Tr α → Nat → Option α → (Tr α → β) → β) → Nat → Option α → (Tr α → β) → β)
          (fun ih m x k => ih .nil m x (fun l => k (.node l none .nil)))
          (fun _ _ ih m x k => ih .nil m x (fun r => k (.node .nil none r)))
          (Nat.mod m 2) ih (Nat.div m 2) x k)
        n ih x k)
      (fun l v r _ _ ih n x k => Nat.rec (motive := fun _ => (Tr α → Nat → Option α → (Tr α → β) → β) → Tr α → Option α → Tr α → Option α → (Tr α → β) → β)
        (fun _ l _ r x k => k (.node l x r))
        (fun m _ ih l v r x k => Nat.rec (motive := fun _ => (Tr α → Nat → Option α → (Tr α → β) → β) → Tr α → Option α → Tr α → Nat → Option α → (Tr α → β) → β)
          (fun ih l v r m x k => ih l m x (fun l => k (.node l v r)))
          (fun _ _ ih l v r m x k => ih r m x (fun r => k (.node l v r)))
          (Nat.mod m 2) ih l v r (Nat.div m 2) x k)
        n ih l v r x k)
      t ih n x k)
    f t n x k

theorem Tr.putF_eq {α β : Type} : ∀ (f : Nat) (t : Tr α) (n : Nat) (x : Option α) (k : Tr α → β), Tr.putF f t n x k = Tr.putK f t n x k
  | 0, t, n, x, k => by cases t <;> rfl
  | f + 1, .nil, 0, x, k => rfl
  | f + 1, .nil, m + 1, x, k => by
    unfold Tr.putK
    simp only
    show (Nat.rec (motive := fun _ => (Tr α → Nat → Option α → (Tr α → β) → β) → Nat → Option α → (Tr α → β) → β)
          (fun ih m x k => ih .nil m x (fun l => k (.node l none .nil)))
          (fun _ _ ih m x k => ih .nil m x (fun r => k (.node .nil none r)))
          (m % 2) (fun t n x k => Tr.putF f t n x k) (m / 2) x k : β) = _
    cases m % 2 with
    | zero => exact Tr.putF_eq f _ _ _ _
    | succ j => exact Tr.putF_eq f _ _ _ _
  | f + 1, .node l v r, 0, x, k => rfl
  | f + 1, .node l v r, m + 1, x, k => by
    unfold Tr.putK
    simp only
    show (Nat.rec (motive := fun _ => (Tr α → Nat → Option α → (Tr α → β) → β) → Tr α → Option α → Tr α → Nat → Option α → (Tr α → β) → β)
          (fun ih l v r m x k => ih l m x (fun l => k (.node l v r)))
          (fun _ _ ih l v r m x k => ih r m x (fun r => k (.node l v r)))
          (m % 2) (fun t n x k => Tr.putF f t n x k) l v r (m / 2) x k : β) = _
    cases m % 2 with
    | zero => exact Tr.putF_eq f _ _ _ _
    | succ j => exact Tr.putF_eq f _ _ _ _

def evF (T : Tr AV) (o : Operand) : Option AV :=
  Operand.rec (motive := fun _ => Tr AV → Option AV)
    (fun t T => Option.rec (motive := fun _ => Option AV) (some undefA) (fun v => some v) (T.getF t))
    (fun v _ => absV 4 v)
    (fun g _ => Bool.rec (motive := fun _ => Nat → Option AV) (fun g => some (.ptr (some (g, 0)))) (fun _ => none) (Nat.ble 64 g) g)
    (fun f _ => some (.func (.func f) [] []))
    o T

theorem evF_eq (T : Tr AV) (o : Operand) : evF T o = ev T o := by
  cases o with
  | tmp t =>
    show (Option.rec (motive := fun _ => Option AV) (some undefA) (fun v => some v) (T.getF t)) = _
    rw [Tr.getF_eq]
    unfold ev
    simp only
    cases T.get t <;> rfl
  | const v => rfl
  | global g =>
    show (Bool.rec (motive := fun _ => Nat → Option AV) (fun g => some (.ptr (some (g, 0)))) (fun _ => none) (Nat.ble 64 g) g) = _
    unfold ev
    simp only
    cases Nat.ble 64 g <;> rfl
  | func f => rfl

def wantedF (ops : List Oper) (T : Tr AV) (g : Option (Nat × Bool)) : Bool :=
  Option.rec (motive := fun _ => List Oper → Tr AV → Bool) (fun _ _ => true)
    (fun g ops T => wantedA ops T (some g)) g ops T
theorem wantedF_eq (ops : List Oper) (T : Tr AV) (g : Option (Nat × Bool)) : wantedF ops T g = wantedA ops T g := by
  cases g <;> rfl

def fNF {α : Type} (n : Nat) (k : Nat → α) : α :=
  Nat.rec (motive := fun _ => (Nat → α) → α) (fun k => k 0) (fun m _ k => k (Nat.succ m)) n k
theorem fNF_eq {α : Type} (n : Nat) (k : Nat → α) : fNF n k = k n := by cases n <;> rfl

def fIF {α : Type} (n : Int) (k : Int → α) : α :=
  Int.rec (motive := fun _ => (Int → α) → α) (fun m k => fNF m fun m => k (.ofNat m)) (fun m k => fNF m fun m => k (.negSucc m)) n k
theorem fIF_eq {α : Type} (n : Int) (k : Int → α) : fIF n k = k n := by cases n <;> exact fNF_eq _ _

def fBF {α : Type} (b : Bool) (k : Bool → α) : α :=
  Bool.rec (motive := fun _ => (Bool → α) → α) (fun k => k false) (fun k => k true) b k
theorem fBF_eq {α : Type} (b : Bool) (k : Bool → α) : fBF b k = k b := by cases b <;> rfl

def fPF {α : Type} (p : Nat × Nat) (k : Nat × Nat → α) : α :=
  Prod.rec (motive := fun _ => (Nat × Nat → α) → α) (fun a b k => fNF a fun a => fNF b fun b => k (a, b)) p k
theorem fPF_eq {α : Type} (p : Nat × Nat) (k : Nat × Nat → α) : fPF p k = k p := by
  obtain ⟨a, b⟩ := p
  exact (fNF_eq _ _).trans (fNF_eq _ _)

def fOPF {α : Type} (o : Option (Nat × Nat)) (k : Option (Nat × Nat) → α) : α :=
  Option.rec (motive := fun _ => (Option (Nat × Nat) → α) → α) (fun k => k none) (fun x k => fPF x fun x => k (some x)) o k
theorem fOPF_eq {α : Type} (o : Option (Nat × Nat)) (k : Option (Nat × Nat) → α) : fOPF o k = k o := by
  cases o
  · rfl
  · exact fPF_eq _ (fun x => k (some x))

def fONF {α : Type} (o : Option Nat) (k : Option Nat → α) : α :=
  Option.rec (motive := fun _ => (Option Nat → α) → α) (fun k => k none) (fun x k => fNF x fun x => k (some x)) o k
theorem fONF_eq {α : Type} (o : Option Nat) (k : Option Nat → α) : fONF o k = k o := by
  cases o
  · rfl
  · exact fNF_eq _ (fun x => k (some x))

/-- A list handed on, each by its passing function. -/
def turnF {α β : Type} (l out : List β) (k : List β → α) : α :=
  List.rec (motive := fun _ => List β → (List β → α) → α) (fun out k => k out) (fun x _ ih out k => ih (x :: out) k) l out k
theorem turnF_eq {α β : Type} : ∀ (l out : List β) (k : List β → α), turnF l out k = turnK l out k
  | [], _, _ => rfl
  | x :: xs, out, k => turnF_eq xs (x :: out) k

def gatherF {α β : Type} (f : β → (β → α) → α) (l acc : List β) (k : List β → α) : α :=
  List.rec (motive := fun _ => (β → (β → α) → α) → List β → (List β → α) → α) (fun _ acc k => turnF acc [] k) (fun x _ ih f acc k => f x fun x => ih f (x :: acc) k) l f acc k
theorem gatherF_eq {α β : Type} (f : β → (β → α) → α) : ∀ (l acc : List β) (k : List β → α), gatherF f l acc k = gatherK f l acc k
  | [], acc, k => turnF_eq acc [] k
  | x :: xs, acc, k => congrArg (f x) (funext fun x => gatherF_eq f xs (x :: acc) k)

def fLF {α β : Type} (f : β → (β → α) → α) (l : List β) (k : List β → α) : α := gatherF f l [] k
theorem fLF_eq {α β : Type} (f : β → (β → α) → α) (l : List β) (k : List β → α) : fLF f l k = fL f l k := gatherF_eq f l [] k

def fQF {α : Type} (v : AV) (k : AV → α) : α :=
  AV.rec (motive_1 := fun _ => (AV → α) → α) (motive_2 := fun _ => Unit)
    (fun b k => fBF b fun b => k (.bool b))
    (fun i n k => fIF n fun n => k (.int i n))
    (fun s k => k (.str s))
    (fun a k => fOPF a fun a => k (.ptr a))
    (fun a l r m k => fOPF a fun a => fNF l fun l => fNF r fun r => fONF m fun m => k (.slice a l r m))
    (fun r k => fONF r fun r => k (.map r))
    (fun fn a b _ _ k => k (.func fn a b))
    (fun k => k .nilFunc)
    (fun t v _ k => k (.iface t v))
    (fun k => k .nilIface)
    (fun cs _ k => k (.agg cs))
    (fun vs _ k => k (.tuple vs))
    () (fun _ _ _ _ => ())
    v k
theorem fQF_eq {α : Type} (v : AV) (k : AV → α) : fQF v k = fQ v k := by
  rw [fQ_eq]
  cases v with
  | bool b => exact fBF_eq _ _
  | int i n => exact fIF_eq _ _
  | ptr a => exact fOPF_eq _ _
  | slice a l r m => exact (fOPF_eq _ _).trans ((fNF_eq _ _).trans ((fNF_eq _ _).trans (fONF_eq _ _)))
  | map r => exact fONF_eq _ _
  | _ => rfl

def fWF {α : Type} (v : AV) (k : AV → α) : α :=
  AV.rec (motive_1 := fun _ => (AV → α) → α) (motive_2 := fun _ => Unit)
    (fun b k => fBF b fun b => k (.bool b))
    (fun i n k => fIF n fun n => k (.int i n))
    (fun s k => k (.str s))
    (fun a k => fOPF a fun a => k (.ptr a))
    (fun a l r m k => fOPF a fun a => fNF l fun l => fNF r fun r => fONF m fun m => k (.slice a l r m))
    (fun r k => fONF r fun r => k (.map r))
    (fun fn a b _ _ k => k (.func fn a b))
    (fun k => k .nilFunc)
    (fun t v _ k => k (.iface t v))
    (fun k => k .nilIface)
    (fun cs _ k => fLF fQF cs fun cs => k (.agg cs))
    (fun vs _ k => fLF fQF vs fun vs => k (.tuple vs))
    () (fun _ _ _ _ => ())
    v k
theorem fLF_fQF {α : Type} (l : List AV) (k : List AV → α) : fLF fQF l k = k l := by
  rw [fLF_eq, show (fQF : AV → (AV → α) → α) = fQ from funext fun v => funext fun k => fQF_eq v k]
  exact fL_eq fQ (fun v k => fQ_eq v k) l k
theorem fWF_eq {α : Type} (v : AV) (k : AV → α) : fWF v k = fW v k := by
  rw [fW_eq]
  cases v with
  | bool b => exact fBF_eq _ _
  | int i n => exact fIF_eq _ _
  | ptr a => exact fOPF_eq _ _
  | slice a l r m => exact (fOPF_eq _ _).trans ((fNF_eq _ _).trans ((fNF_eq _ _).trans (fONF_eq _ _)))
  | map r => exact fONF_eq _ _
  | agg cs => exact fLF_fQF _ _
  | tuple cs => exact fLF_fQF _ _
  | _ => rfl

/-- All of a value handed on. -/
def fUF {α : Type} (v : AV) (k : AV → α) : α :=
  AV.rec (motive_1 := fun _ => (AV → α) → α) (motive_2 := fun _ => Unit)
    (fun b k => fBF b fun b => k (.bool b))
    (fun i n k => fIF n fun n => k (.int i n))
    (fun s k => fLF fNF s fun s => k (.str s))
    (fun a k => fOPF a fun a => k (.ptr a))
    (fun a l r m k => fOPF a fun a => fNF l fun l => fNF r fun r => fONF m fun m => k (.slice a l r m))
    (fun r k => fONF r fun r => k (.map r))
    (fun f a c _ _ k => fV 5 (.func f a c) k)
    (fun k => k .nilFunc)
    (fun t v _ k => fV 5 (.iface t v) k)
    (fun k => k .nilIface)
    (fun cs _ k => fV 5 (.agg cs) k)
    (fun vs _ k => fV 5 (.tuple vs) k)
    () (fun _ _ _ _ => ()) v k
theorem fLF_fNF {α : Type} (l : List Nat) (k : List Nat → α) : fLF fNF l k = k l := by
  rw [fLF_eq, show (fNF : Nat → (Nat → α) → α) = fN from funext fun v => funext fun k => by rw [fNF_eq, fN_eq]]
  exact fL_eq fN (fun v k => fN_eq v k) l k
theorem fUF_eq {α : Type} (v : AV) (k : AV → α) : fUF v k = k v := by
  cases v with
  | bool b => exact fBF_eq _ _
  | int i n => exact fIF_eq _ _
  | str s => exact fLF_fNF _ _
  | ptr a => exact fOPF_eq _ _
  | slice a l r m => exact (fOPF_eq _ _).trans ((fNF_eq _ _).trans ((fNF_eq _ _).trans (fONF_eq _ _)))
  | map r => exact fONF_eq _ _
  | func f a c => exact fV_eq 5 (.func f a c) k
  | iface t v => exact fV_eq 5 (.iface t v) k
  | agg cs => exact fV_eq 5 (.agg cs) k
  | tuple cs => exact fV_eq 5 (.tuple cs) k
  | _ => rfl

/-- How much of a value is still to be reckoned. -/
inductive Md where
  | raw | small | full

def fMF {α : Type} (m : Md) (v : AV) (k : AV → α) : α :=
  Md.rec (motive := fun _ => AV → (AV → α) → α) (fun v k => k v) (fun v k => fWF v k) (fun v k => fUF v k) m v k
theorem fMF_eq {α : Type} (m : Md) (v : AV) (k : AV → α) : fMF m v k = k v := by
  cases m
  · rfl
  · exact (fWF_eq v k).trans (fW_eq v k)
  · exact fUF_eq v k

def modeF : Op → Md
  | .binOp _ _ _ _ _ => .full
  | .convert _ _ _ => .full
  | .slice _ _ _ _ _ => .full
  | .move _ => .raw
  | .assign _ => .raw
  | .pick _ _ _ => .raw
  | .nilCheck _ => .raw
  | .extract _ _ => .raw
  | .load _ _ => .raw
  | .field _ _ _ => .raw
  | .index _ _ _ => .raw
  | .lookup _ _ _ _ => .raw
  | .typeAssert _ _ _ _ => .raw
  | .makeInterface _ _ => .raw
  | .makeFunc _ _ _ => .raw
  | .build _ _ => .raw
  | _ => .small

/-! Lists of cells. -/
def listGetF {α : Type} (l : List α) (n : Nat) : Option α :=
  List.rec (motive := fun _ => Nat → Option α) (fun _ => none)
    (fun x _ ih n => Nat.rec (motive := fun _ => α → (Nat → Option α) → Option α) (fun x _ => some x) (fun m _ _ ih => ih m) n x ih) l n
theorem listGetF_eq {α : Type} : ∀ (l : List α) (n : Nat), listGetF l n = listGet l n
  | [], _ => rfl
  | _ :: _, 0 => rfl
  | _ :: xs, m + 1 => listGetF_eq xs m

def consF {α : Type} (x : α) (r : Option (List α)) : Option (List α) :=
  Option.rec (motive := fun _ => α → Option (List α)) (fun _ => none) (fun l x => some (x :: l)) r x
theorem consF_eq {α : Type} (x : α) (r : Option (List α)) : consF x r = match r with | some l => some (x :: l) | none => none := by cases r <;> rfl

def takeF {α : Type} (l : List α) (n : Nat) : Option (List α) :=
  List.rec (motive := fun _ => Nat → Option (List α))
    (fun n => Nat.rec (motive := fun _ => Option (List α)) (some []) (fun _ _ => none) n)
    (fun x _ ih n => Nat.rec (motive := fun _ => α → (Nat → Option (List α)) → Option (List α)) (fun _ _ => some []) (fun m _ x ih => consF x (ih m)) n x ih) l n
theorem takeF_eq {α : Type} : ∀ (l : List α) (n : Nat), takeF l n = take l n
  | [], 0 => rfl
  | [], _ + 1 => rfl
  | _ :: _, 0 => rfl
  | x :: xs, m + 1 => by
    show consF x (takeF xs m) = _
    rw [consF_eq, takeF_eq xs m]
    rfl

def dropF {α : Type} (l : List α) (n : Nat) : List α :=
  List.rec (motive := fun _ => Nat → List α) (fun _ => [])
    (fun x xs ih n => Nat.rec (motive := fun _ => α → List α → (Nat → List α) → List α) (fun x xs _ => x :: xs) (fun m _ _ _ ih => ih m) n x xs ih) l n
theorem dropF_eq {α : Type} : ∀ (l : List α) (n : Nat), dropF l n = drop l n
  | [], 0 => rfl
  | [], _ + 1 => rfl
  | _ :: _, 0 => rfl
  | _ :: xs, m + 1 => dropF_eq xs m

def cutF {α : Type} (l : List α) (o n : Nat) : Option (List α) := takeF (dropF l o) n
theorem cutF_eq {α : Type} (l : List α) (o n : Nat) : cutF l o n = cut l o n := by
  unfold cutF cut
  rw [dropF_eq, takeF_eq]

def overF {α : Type} (cs vs : List α) : Option (List α) :=
  List.rec (motive := fun _ => List α → Option (List α)) (fun cs => some cs)
    (fun v _ ih cs => List.rec (motive := fun _ => α → (List α → Option (List α)) → Option (List α)) (fun _ _ => none) (fun _ cs _ v ih => consF v (ih cs)) cs v ih) vs cs
theorem overF_eq {α : Type} : ∀ (vs cs : List α), overF cs vs = over cs vs
  | [], cs => by cases cs <;> rfl
  | _ :: _, [] => rfl
  | v :: vs, _ :: cs => by
    show consF v (overF cs vs) = _
    rw [consF_eq, overF_eq vs cs]
    rfl

def layF {α : Type} (cs : List α) (o : Nat) (vs : List α) : Option (List α) :=
  List.rec (motive := fun _ => Nat → List α → Option (List α))
    (fun o vs => Nat.rec (motive := fun _ => List α → Option (List α)) (fun vs => overF [] vs) (fun _ _ _ => none) o vs)
    (fun c cs ih o vs => Nat.rec (motive := fun _ => α → List α → (Nat → List α → Option (List α)) → List α → Option (List α))
      (fun c cs _ vs => overF (c :: cs) vs) (fun o _ c _ ih vs => consF c (ih o vs)) o c cs ih vs) cs o vs
theorem layF_eq {α : Type} : ∀ (cs : List α) (o : Nat) (vs : List α), layF cs o vs = lay cs o vs
  | [], 0, vs => overF_eq vs []
  | [], _ + 1, _ => rfl
  | c :: cs, 0, vs => overF_eq vs (c :: cs)
  | c :: cs, o + 1, vs => by
    show consF c (layF cs o vs) = _
    rw [consF_eq, layF_eq cs o vs]
    rfl

def partAF (agg : Bool) (size : Nat) (cs : List AV) (off : Nat) : Option AV :=
  Bool.rec (motive := fun _ => Nat → List AV → Nat → Option AV) (fun _ cs off => listGetF cs off)
    (fun size cs off => Option.rec (motive := fun _ => Option AV) none (fun l => some (.agg l)) (cutF cs off size)) agg size cs off
theorem partAF_eq (agg : Bool) (size : Nat) (cs : List AV) (off : Nat) : partAF agg size cs off = partA agg size cs off := by
  cases agg with
  | false => exact listGetF_eq _ _
  | true =>
    show Option.rec (motive := fun _ => Option AV) none (fun l => some (.agg l)) (cutF cs off size) = _
    rw [cutF_eq]
    unfold partA
    simp only
    cases cut cs off size <;> rfl

def oneF (v : AV) : Bool :=
  AV.rec (motive_1 := fun _ => Bool) (motive_2 := fun _ => Unit)
    (fun _ => true)
    (fun _ _ => true)
    (fun _ => true)
    (fun _ => true)
    (fun _ _ _ _ => true)
    (fun _ => true)
    (fun _ _ _ _ _ => true)
    true
    (fun _ _ _ => true)
    true
    (fun _ _ => false)
    (fun _ _ => false)
    () (fun _ _ _ _ => ()) v
theorem oneF_eq (v : AV) : oneF v = v.one := by cases v <;> rfl

def allOneF (l : List AV) : Bool :=
  List.rec (motive := fun _ => Bool) true (fun v _ ih => Bool.rec (motive := fun _ => Bool → Bool) (fun _ => false) (fun b => b) (oneF v) ih) l
theorem allOneF_eq : ∀ (l : List AV), allOneF l = allOne l
  | [] => rfl
  | v :: l => by
    show Bool.rec (motive := fun _ => Bool → Bool) (fun _ => false) (fun b => b) (oneF v) (allOneF l) = _
    rw [oneF_eq, allOneF_eq l]
    show _ = (match v.one with
      | true => allOne l
      | false => false)
    cases v.one <;> rfl

/-- Old cells with new ones behind them, handed on. -/
def joinF {α : Type} (old new : List AV) (k : List AV → α) : α :=
  fLF fQF new fun new => List.rec (motive := fun _ => List AV → (List AV → α) → α) (fun new k => k new) (fun x _ ih new k => ih new fun r => k (x :: r)) old new k
theorem joinF_eq {α : Type} : ∀ (old new : List AV) (k : List AV → α), joinF old new k = k (old ++ new) := by
  intro old new k
  unfold joinF
  rw [fLF_fQF]
  induction old generalizing k with
  | nil => rfl
  | cons x l ih => exact ih fun r => k (x :: r)

def St.setF (S : St) (n : Nat) (o : Option AObj) : Option St :=
  Bool.rec (motive := fun _ => St → Nat → Option AObj → Option St) (fun _ _ _ => none)
    (fun S n o => Tr.putF (Nat.succ n) S.heap n o fun h => some ⟨h, S.next, S.syms, Nat.succ S.ver⟩) (Nat.ble 64 n) S n o
theorem St.setF_eq (S : St) (n : Nat) (o : Option AObj) : S.setF n o = S.set n o := by
  unfold St.setF St.set
  rw [fO_eq fObj fObj_eq]
  cases Nat.ble 64 n with
  | false => rfl
  | true => exact Tr.putF_eq _ _ _ _ _

def St.pushF {α : Type} (S : St) (o : AObj) (k : St → α) : α :=
  St.rec (motive := fun _ => AObj → (St → α) → α)
    (fun h n y r o k => Tr.putF (Nat.succ n) h n (some o) fun h => fNF r fun r => k ⟨h, Nat.succ n, y, Nat.succ r⟩) S o k
theorem St.pushF_eq {α : Type} (S : St) (o : AObj) (k : St → α) : S.pushF o k = S.push o k := by
  obtain ⟨h, n, y, r⟩ := S
  show (Tr.putF (Nat.succ n) h n (some o) fun h => fNF r fun r => k ⟨h, Nat.succ n, y, Nat.succ r⟩) = _
  unfold St.push
  simp only [Tr.putF_eq, fNF_eq, fN_eq, fObj_eq]

def St.pushAtF {α : Type} (S : St) (m : Nat) (o : AObj) (k : St → α) : α :=
  St.rec (motive := fun _ => Nat → AObj → (St → α) → α)
    (fun h n y r m o k => Tr.putF (Nat.succ m) h m (some o) fun h => fNF r fun r => k ⟨h, n, y, Nat.succ r⟩) S m o k
theorem St.pushAtF_eq {α : Type} (S : St) (m : Nat) (o : AObj) (k : St → α) : S.pushAtF m o k = S.pushAt m o k := by
  obtain ⟨h, n, y, r⟩ := S
  show (Tr.putF (Nat.succ m) h m (some o) fun h => fNF r fun r => k ⟨h, n, y, Nat.succ r⟩) = _
  unfold St.pushAt
  simp only [Tr.putF_eq, fNF_eq, fN_eq, fObj_eq]

/-- An appended row. -/
def St.pushJ {α : Type} (S : St) (old new : List AV) (e : TypeId) (m : Option (Nat × Nat)) (k : St → α) : α :=
  joinF old new fun cs => fOPF m fun m => St.rec (motive := fun _ => AObj → (St → α) → α)
    (fun h n y r o k => Tr.putF (Nat.succ n) h n (some o) fun h => fNF r fun r => k ⟨h, Nat.succ n, Nat.succ y, Nat.succ r⟩) S (.cells cs e m) k
theorem St.pushJ_eq {α : Type} (S : St) (old new : List AV) (e : TypeId) (m : Option (Nat × Nat)) (k : St → α) : S.pushJ old new e m k = S.pushS (.cells (old ++ new) e m) k := by
  obtain ⟨h, n, y, r⟩ := S
  unfold St.pushJ
  rw [joinF_eq, fOPF_eq]
  show (Tr.putF (Nat.succ n) h n (some (.cells (old ++ new) e m)) fun h => fNF r fun r => k ⟨h, Nat.succ n, Nat.succ y, Nat.succ r⟩) = _
  unfold St.pushS
  simp only [Tr.putF_eq, fNF_eq, fN_eq, fObj_eq]
end
end Go.Exe
namespace Go.Exe
noncomputable section

def evsF (T : Tr AV) : List Operand → Option (List AV)
  | [] => some []
  | o :: os => match evF T o with
    | none => none
    | some x => match evsF T os with
      | some l => some (x :: l)
      | none => none

theorem evsF_eq (T : Tr AV) : ∀ x0, evsF T x0 = evs T x0 := by
  intro x0
  induction x0 with
  | nil => simp only [evsF, evs]
  | cons a l ih => simp only [evsF, evs, ih, evF_eq] <;> rfl

def fillAF (fs : List FI) (T : Tr AV) (cs : List AV) : List (Nat × Operand) → Option (List AV)
  | [] => some cs
  | (i, x) :: rest =>
    match listGetF fs i, evF T x with
    | some f, some v =>
      let vc := v.cells
      match Nat.beq vc.length f.size with
      | true => match layF cs f.off vc with
        | some cs => fillAF fs T cs rest
        | none => none
      | false => none
    | _, _ => none

theorem fillAF_eq (fs : List FI) (T : Tr AV) (cs : List AV) : ∀ x0, fillAF fs T cs x0 = fillA fs T cs x0 := by
  intro x0
  induction x0 generalizing cs with
  | nil => simp only [fillAF, fillA]
  | cons a l ih => simp only [fillAF, fillA, ih, evF_eq, listGetF_eq, layF_eq] <;> rfl

def fillSF (size : Nat) (T : Tr AV) (cs : List AV) : List (Nat × Operand) → Option (List AV)
  | [] => some cs
  | (i, x) :: rest =>
    match evF T x with
    | some v =>
      let vc := v.cells
      match Nat.beq vc.length size with
      | true => match layF cs (i * size) vc with
        | some cs => fillSF size T cs rest
        | none => none
      | false => none
    | _ => none

theorem fillSF_eq (size : Nat) (T : Tr AV) (cs : List AV) : ∀ x0, fillSF size T cs x0 = fillS size T cs x0 := by
  intro x0
  induction x0 generalizing cs with
  | nil => simp only [fillSF, fillS]
  | cons a l ih => simp only [fillSF, fillS, ih, evF_eq, layF_eq] <;> rfl

def boundF (T : Tr AV) (d : Nat) : Option Operand → Option Nat
  | none => some d
  | some o => match evF T o with
    | some v => nat? v
    | none => none

theorem boundF_eq (T : Tr AV) (d : Nat) : ∀ x0, boundF T d x0 = bound? T d x0 := by
  intro x0
  unfold boundF bound?
  simp only [evF_eq] <;> rfl

def lookOfF (h : Tr AObj) : AV → Option (List (AV × AV × Nat))
  | .map (some r) => match h.getF r with
    | some (.look es) => some es
    | _ => none
  | _ => none

theorem lookOfF_eq (h : Tr AObj) : ∀ x0, lookOfF h x0 = lookOf h x0 := by
  intro x0
  unfold lookOfF lookOf
  simp only [Tr.getF_eq] <;> rfl

def mapOfF (h : Tr AObj) : AV → Option (List (AV × AV × Nat))
  | .map none => some []
  | .map (some r) => match h.getF r with
    | some (.map es _) => some es
    | _ => none
  | _ => none

theorem mapOfF_eq (h : Tr AObj) : ∀ x0, mapOfF h x0 = mapOf h x0 := by
  intro x0
  unfold mapOfF mapOf
  simp only [Tr.getF_eq] <;> rfl

def pupickF (ty : Tr TI) (h : Tr AObj) (nm : Nat) (T : Tr AV) (c a b : Operand) : Option (AV × Option AObj) :=
  match evF T c with
    | some (.bool true) => match evF T a with
      | some v => some (v, none)
      | none => none
    | some (.bool false) => match evF T b with
      | some v => some (v, none)
      | none => none
    | _ => none

theorem pupickF_eq (ty : Tr TI) (h : Tr AObj) (nm : Nat) (T : Tr AV) (c a b : Operand) : pupickF ty h nm T c a b = pupick ty h nm T c a b := by
  simp only [pupickF, pupick, evF_eq] <;> rfl

def puboxF (ty : Tr TI) (h : Tr AObj) (nm : Nat) (T : Tr AV) (e : TypeId) (x : Operand) : Option (AV × Option AObj) :=
  match evF T x with
    | some v => some (.ptr (some (nm, 0)), some (.cells v.cells e none))
    | none => none

theorem puboxF_eq (ty : Tr TI) (h : Tr AObj) (nm : Nat) (T : Tr AV) (e : TypeId) (x : Operand) : puboxF ty h nm T e x = pubox ty h nm T e x := by
  simp only [puboxF, pubox, evF_eq] <;> rfl

def pubuildF (ty : Tr TI) (h : Tr AObj) (nm : Nat) (T : Tr AV) (t : TypeId) (parts : Array (Nat × Operand)) : Option (AV × Option AObj) :=
  match ty.get t with
    | some ti => match ti.kd with
      | .struct fs => match fillAF fs T ti.zero parts.toList with
        | some cs => some (.agg cs, none)
        | none => none
      | _ => none
    | none => none

theorem pubuildF_eq (ty : Tr TI) (h : Tr AObj) (nm : Nat) (T : Tr AV) (t : TypeId) (parts : Array (Nat × Operand)) : pubuildF ty h nm T t parts = pubuild ty h nm T t parts := by
  simp only [pubuildF, pubuild, fillAF_eq] <;> rfl

def pubuildSliceF (ty : Tr TI) (h : Tr AObj) (nm : Nat) (T : Tr AV) (t : TypeId) (len : Nat) (parts : Array (Nat × Operand)) : Option (AV × Option AObj) :=
  match ty.get t with
    | some ti => match ti.kd with
      | .slice e => match ty.get e with
        | some te => match Nat.ble (len * te.size) 16777216 with
          | true => match fillSF te.size T (repA te.zero len) parts.toList with
            | some cs => some (.slice (some (nm, 0)) len 0 none, some (.cells cs e none))
            | none => none
          | false => none
        | none => none
      | _ => none
    | none => none

theorem pubuildSliceF_eq (ty : Tr TI) (h : Tr AObj) (nm : Nat) (T : Tr AV) (t : TypeId) (len : Nat) (parts : Array (Nat × Operand)) : pubuildSliceF ty h nm T t len parts = pubuildSlice ty h nm T t len parts := by
  simp only [pubuildSliceF, pubuildSlice, fillSF_eq] <;> rfl

def puloadF (ty : Tr TI) (h : Tr AObj) (nm : Nat) (T : Tr AV) (t : TypeId) (a : Operand) : Option (AV × Option AObj) :=
  match ty.get t with
    | none => none
    | some ti => match evF T a with
      | some (.ptr (some (n, o))) => match h.getF n with
        | some (.cells cs _ _) => match partAF ti.kd.isAgg ti.size cs o with
          | some v => some (v, none)
          | none => none
        | _ => none
      | _ => none

theorem puloadF_eq (ty : Tr TI) (h : Tr AObj) (nm : Nat) (T : Tr AV) (t : TypeId) (a : Operand) : puloadF ty h nm T t a = puload ty h nm T t a := by
  simp only [puloadF, puload, evF_eq, Tr.getF_eq, partAF_eq] <;> rfl

def punilCheckF (ty : Tr TI) (h : Tr AObj) (nm : Nat) (T : Tr AV) (x : Operand) : Option (AV × Option AObj) :=
  match evF T x with
    | some (.ptr (some a)) => some (.ptr (some a), none)
    | some (.func (.func f) a b) => some (.func (.func f) a b, none)
    | _ => none

theorem punilCheckF_eq (ty : Tr TI) (h : Tr AObj) (nm : Nat) (T : Tr AV) (x : Operand) : punilCheckF ty h nm T x = punilCheck ty h nm T x := by
  simp only [punilCheckF, punilCheck, evF_eq] <;> rfl

def pubinOpF (ty : Tr TI) (h : Tr AObj) (nm : Nat) (T : Tr AV) (op : BinOp) (t : TypeId) (x y : Operand) : Option (AV × Option AObj) :=
  match evF T x, evF T y with
    | some a, some b => match binA ty op t a b with
      | some v => some (v, none)
      | none => match nilA ty op t x y a b with
        | some v => some (v, none)
        | none => match opnA op a b with
          | some v => some (v, none)
          | none => none
    | _, _ => none

theorem pubinOpF_eq (ty : Tr TI) (h : Tr AObj) (nm : Nat) (T : Tr AV) (op : BinOp) (t : TypeId) (x y : Operand) : pubinOpF ty h nm T op t x y = pubinOp ty h nm T op t x y := by
  simp only [pubinOpF, pubinOp, evF_eq] <;> rfl

def puunOpF (ty : Tr TI) (h : Tr AObj) (nm : Nat) (T : Tr AV) (op : UnOp) (x : Operand) : Option (AV × Option AObj) :=
  match op, evF T x with
    | .not, some (.bool b) => some (.bool !b, none)
    | .neg, some (.int k n) => some (.int k (k.wrap (0 - n)), none)
    | _, _ => none

theorem puunOpF_eq (ty : Tr TI) (h : Tr AObj) (nm : Nat) (T : Tr AV) (op : UnOp) (x : Operand) : puunOpF ty h nm T op x = puunOp ty h nm T op x := by
  simp only [puunOpF, puunOp, evF_eq] <;> rfl

def puconvertF (ty : Tr TI) (h : Tr AObj) (nm : Nat) (T : Tr AV) (s d : TypeId) (x : Operand) : Option (AV × Option AObj) :=
  match ty.get s, ty.get d, evF T x with
    | some ts, some td, some v => match td.kd, v with
      | .int k, .int _ n => some (.int k (wrapA k n), none)
      | .str, .str l => some (.str l, none)
      | .str, .slice a len _ _ => match ts.kd with
        | .slice e => match ty.get e with
          | some te => match te.kd with
            | .int .u8 => match a with
              | none => some (.str [], none)
              | some (n, o) => match h.getF n with
                | some (.cells cs _ _) => match cutF cs o len with
                  | some l => match bytesOf? l with
                    | some b => some (.str b, none)
                    | none => none
                  | none => none
                | _ => none
            | _ => none
          | none => none
        | _ => none
      | _, _ => none
    | _, _, _ => none

theorem puconvertF_eq (ty : Tr TI) (h : Tr AObj) (nm : Nat) (T : Tr AV) (s d : TypeId) (x : Operand) : puconvertF ty h nm T s d x = puconvert ty h nm T s d x := by
  simp only [puconvertF, puconvert, evF_eq, Tr.getF_eq, cutF_eq] <;> rfl

def pumakeInterfaceF (ty : Tr TI) (h : Tr AObj) (nm : Nat) (T : Tr AV) (t : TypeId) (x : Operand) : Option (AV × Option AObj) :=
  match ty.get t, evF T x with
    | some ti, some v => match ti.kd with
      | .iface => none
      | .other => none
      | _ => some (.iface t v, none)
    | _, _ => none

theorem pumakeInterfaceF_eq (ty : Tr TI) (h : Tr AObj) (nm : Nat) (T : Tr AV) (t : TypeId) (x : Operand) : pumakeInterfaceF ty h nm T t x = pumakeInterface ty h nm T t x := by
  simp only [pumakeInterfaceF, pumakeInterface, evF_eq] <;> rfl

def pumakeSliceF (ty : Tr TI) (h : Tr AObj) (nm : Nat) (T : Tr AV) (t : TypeId) (l c : Operand) : Option (AV × Option AObj) :=
  match ty.get t, evF T l, evF T c with
    | some ti, some l, some c => match ti.kd, nat? l, nat? c with
      | .slice e, some l, some c => match ty.get e with
        | some te => match Nat.ble l c, Nat.ble c 16777216, Nat.ble (te.bytes * c) 281474976710656 with
          | true, true, true => some (.slice (some (nm, 0)) l (c - l) none, some (.cells (repA te.zero c) e none))
          | _, _, _ => none
        | none => none
      | _, _, _ => none
    | _, _, _ => none

theorem pumakeSliceF_eq (ty : Tr TI) (h : Tr AObj) (nm : Nat) (T : Tr AV) (t : TypeId) (l c : Operand) : pumakeSliceF ty h nm T t l c = pumakeSlice ty h nm T t l c := by
  simp only [pumakeSliceF, pumakeSlice, evF_eq] <;> rfl

def pumakeFuncF (ty : Tr TI) (h : Tr AObj) (nm : Nat) (T : Tr AV) (fn : Fn) (a b : Array Operand) : Option (AV × Option AObj) :=
  match plainFn fn, evsF T a.toList, evsF T b.toList with
    | true, some a, some b => some (.func fn a b, none)
    | _, _, _ => none

theorem pumakeFuncF_eq (ty : Tr TI) (h : Tr AObj) (nm : Nat) (T : Tr AV) (fn : Fn) (a b : Array Operand) : pumakeFuncF ty h nm T fn a b = pumakeFunc ty h nm T fn a b := by
  simp only [pumakeFuncF, pumakeFunc, evsF_eq] <;> rfl

def pusarrF (ty : Tr TI) (T : Tr AV) (n : Nat) (e : TypeId) (v : AV) (lo hi : Option Operand) : Option (AV × Option AObj) :=
  match v with
  | .ptr (some (b, o)) => match ty.get e, boundF T 0 lo, boundF T n hi with
    | some te, some l, some h => match Nat.ble l h, Nat.ble h n, Nat.ble (l + 1) n with
      | true, true, true => some (.slice (some (b, o + l * te.size)) (h - l) (n - h) none, none)
      | true, true, false => some (.slice (some (b, o)) (h - l) (n - h) none, none)
      | _, _, _ => none
    | _, _, _ => none
  | _ => none

theorem pusarrF_eq (ty : Tr TI) (T : Tr AV) (n : Nat) (e : TypeId) (v : AV) (lo hi : Option Operand) : pusarrF ty T n e v lo hi = pusarr ty T n e v lo hi := by
  simp only [pusarrF, pusarr, boundF_eq] <;> rfl

def pusliceF (ty : Tr TI) (h : Tr AObj) (nm : Nat) (T : Tr AV) (t : TypeId) (x : Operand) (lo hi : Option Operand) : Option (AV × Option AObj) :=
  match ty.get t, evF T x with
    | some ti, some v => match ti.kd, v with
      | .str, .str s => match boundF T 0 lo, boundF T s.length hi with
        | some l, some h => match Nat.ble l h, Nat.ble h s.length with
          | true, true => match cutF s l (h - l) with
            | some r => some (.str r, none)
            | none => none
          | _, _ => none
        | _, _ => none
      | .slice e, .slice a len room more => match ty.get e, boundF T 0 lo, boundF T len hi with
        | some te, some l, some h => match Nat.ble l h, Nat.ble h (len + room), Nat.ble (l + 1) (len + room) with
          | true, true, true => match a with
            | some (n, o) => some (.slice (some (n, o + l * te.size)) (h - l) (len + room - h) more, none)
            | none => none
          | true, true, false => match l with
            | 0 => some (.slice a (h - l) (len + room - h) more, none)
            | _ + 1 => match a, more with
              | some (n, o), none => some (.slice (some (n, o)) (h - l) (len + room - h) none, none)
              | some (n, o), some m => some (.slice (some (n, o + l * te.size)) (h - l) (len + room - h) (some m), none)
              | none, _ => none
          | _, _, _ => none
        | _, _, _ => none
      | .array n e, v => pusarrF ty T n e v lo hi
      | _, _ => none
    | _, _ => none

theorem pusliceF_eq (ty : Tr TI) (h : Tr AObj) (nm : Nat) (T : Tr AV) (t : TypeId) (x : Operand) (lo hi : Option Operand) : pusliceF ty h nm T t x lo hi = puslice ty h nm T t x lo hi := by
  simp only [pusliceF, puslice, evF_eq, cutF_eq, boundF_eq, pusarrF_eq] <;> rfl

def pufieldAddrF (ty : Tr TI) (h : Tr AObj) (nm : Nat) (T : Tr AV) (t : TypeId) (x : Operand) (f : Nat) : Option (AV × Option AObj) :=
  match ty.get t, evF T x with
    | some ti, some (.ptr (some (n, o))) => match ti.kd with
      | .struct fs => match listGetF fs f with
        | some fi => match fi.size with
          | 0 => none
          | _ + 1 => some (.ptr (some (n, o + fi.off)), none)
        | none => none
      | _ => none
    | _, _ => none

theorem pufieldAddrF_eq (ty : Tr TI) (h : Tr AObj) (nm : Nat) (T : Tr AV) (t : TypeId) (x : Operand) (f : Nat) : pufieldAddrF ty h nm T t x f = pufieldAddr ty h nm T t x f := by
  simp only [pufieldAddrF, pufieldAddr, evF_eq, listGetF_eq] <;> rfl

def pufieldF (ty : Tr TI) (h : Tr AObj) (nm : Nat) (T : Tr AV) (t : TypeId) (x : Operand) (f : Nat) : Option (AV × Option AObj) :=
  match ty.get t, evF T x with
    | some ti, some (.agg cs) => match ti.kd with
      | .struct fs => match listGetF fs f with
        | some fi => match partAF fi.agg fi.size cs fi.off with
          | some v => some (v, none)
          | none => none
        | none => none
      | _ => none
    | _, _ => none

theorem pufieldF_eq (ty : Tr TI) (h : Tr AObj) (nm : Nat) (T : Tr AV) (t : TypeId) (x : Operand) (f : Nat) : pufieldF ty h nm T t x f = pufield ty h nm T t x f := by
  simp only [pufieldF, pufield, evF_eq, listGetF_eq, partAF_eq] <;> rfl

def puindexAddrF (ty : Tr TI) (h : Tr AObj) (nm : Nat) (T : Tr AV) (t : TypeId) (x ix : Operand) : Option (AV × Option AObj) :=
  match ty.get t, evF T x, evF T ix with
    | some ti, some (.slice (some (n, o)) len _ _), some i => match ti.kd, nat? i with
      | .slice e, some i => match ty.get e, Nat.ble (i + 1) len with
        | some te, true => some (.ptr (some (n, o + i * te.size)), none)
        | _, _ => none
      | _, _ => none
    | some ti, some (.ptr (some (n, o))), some i => match ti.kd, nat? i with
      | .array len e, some i => match ty.get e, Nat.ble (i + 1) len with
        | some te, true => some (.ptr (some (n, o + i * te.size)), none)
        | _, _ => none
      | _, _ => none
    | _, _, _ => none

theorem puindexAddrF_eq (ty : Tr TI) (h : Tr AObj) (nm : Nat) (T : Tr AV) (t : TypeId) (x ix : Operand) : puindexAddrF ty h nm T t x ix = puindexAddr ty h nm T t x ix := by
  simp only [puindexAddrF, puindexAddr, evF_eq] <;> rfl

def puindexF (ty : Tr TI) (h : Tr AObj) (nm : Nat) (T : Tr AV) (t : TypeId) (x ix : Operand) : Option (AV × Option AObj) :=
  match ty.get t, evF T x, evF T ix with
    | some ti, some (.str s), some i => match ti.kd, nat? i with
      | .str, some i => match listGetF s i with
        | some b => some (.int .u8 (.ofNat b), none)
        | none => none
      | _, _ => none
    | _, _, _ => none

theorem puindexF_eq (ty : Tr TI) (h : Tr AObj) (nm : Nat) (T : Tr AV) (t : TypeId) (x ix : Operand) : puindexF ty h nm T t x ix = puindex ty h nm T t x ix := by
  simp only [puindexF, puindex, evF_eq, listGetF_eq] <;> rfl

def pulookupF (ty : Tr TI) (h : Tr AObj) (nm : Nat) (T : Tr AV) (t : TypeId) (x ix : Operand) (ok : Bool) : Option (AV × Option AObj) :=
  match ty.get t, evF T x, evF T ix with
    | some ti, some m, some k => match ti.kd with
      | .map kt e => match plainKey ty 4 kt k, ty.get e, mapOfF h m with
        | true, some te, some es => match keyIn ty kt k es 0 with
          | some (some (_, v)) => some (okA ok v true, none)
          | some none => match zeroOf te with
            | some z => some (okA ok z false, none)
            | none => none
          | none => none
        | true, some _, none => match lookOfF h m with
          | some es => match hits ty kt k es with
            | some [v] => some (okA ok v true, none)
            | _ => none
          | none => none
        | _, _, _ => none
      | _ => none
    | _, _, _ => none

theorem pulookupF_eq (ty : Tr TI) (h : Tr AObj) (nm : Nat) (T : Tr AV) (t : TypeId) (x ix : Operand) (ok : Bool) : pulookupF ty h nm T t x ix ok = pulookup ty h nm T t x ix ok := by
  simp only [pulookupF, pulookup, evF_eq, lookOfF_eq, mapOfF_eq] <;> rfl

def puextractF (ty : Tr TI) (h : Tr AObj) (nm : Nat) (T : Tr AV) (t : Operand) (i : Nat) : Option (AV × Option AObj) :=
  match evF T t with
    | some (.tuple vs) => match listGetF vs i with
      | some v => some (v, none)
      | none => none
    | _ => none

theorem puextractF_eq (ty : Tr TI) (h : Tr AObj) (nm : Nat) (T : Tr AV) (t : Operand) (i : Nat) : puextractF ty h nm T t i = puextract ty h nm T t i := by
  simp only [puextractF, puextract, evF_eq, listGetF_eq] <;> rfl

def putypeAssertF (ty : Tr TI) (h : Tr AObj) (nm : Nat) (T : Tr AV) (x : Operand) (as : TypeId) (ok : Bool) : Option (AV × Option AObj) :=
  match evF T x, ty.get as with
    | some (.iface t v), some ti => match ti.kd with
      | .iface => none
      | .other => none
      | _ => match Nat.beq t as with
        | true => some (okA ok v true, none)
        | false => none
    | some .nilIface, some ti => match ti.kd, ok with
      | .iface, _ => none
      | .other, _ => none
      | _, true => match zeroOf ti with
        | some z => some (.tuple [z, .bool false], none)
        | none => none
      | _, false => none
    | _, _ => none

theorem putypeAssertF_eq (ty : Tr TI) (h : Tr AObj) (nm : Nat) (T : Tr AV) (x : Operand) (as : TypeId) (ok : Bool) : putypeAssertF ty h nm T x as ok = putypeAssert ty h nm T x as ok := by
  simp only [putypeAssertF, putypeAssert, evF_eq] <;> rfl

def pulenF (ty : Tr TI) (h : Tr AObj) (nm : Nat) (T : Tr AV) (args : Array Operand) (argTypes : Array TypeId) : Option (AV × Option AObj) :=
  match argTypes.toList, args.toList with
    | [t], [x] => match ty.get t, evF T x with
      | some ti, some v => match ti.kd, v with
        | .str, .str s => some (.int .i64 s.length, none)
        | .str, .func (.yield n) [] [.nilFunc, .tuple _] => some (.int .i64 n, none)
        | .slice _, .slice _ n _ _ => some (.int .i64 n, none)
        | .map _ _, .map none => some (.int .i64 0, none)
        | .map _ _, .map (some r) => match h.getF r with
          | some (.map es _) => some (.int .i64 es.length, none)
          | _ => none
        | _, _ => none
      | _, _ => none
    | _, _ => none

theorem pulenF_eq (ty : Tr TI) (h : Tr AObj) (nm : Nat) (T : Tr AV) (args : Array Operand) (argTypes : Array TypeId) : pulenF ty h nm T args argTypes = pulen ty h nm T args argTypes := by
  simp only [pulenF, pulen, evF_eq, Tr.getF_eq] <;> rfl

def puminF (ty : Tr TI) (h : Tr AObj) (nm : Nat) (T : Tr AV) (args : Array Operand) : Option (AV × Option AObj) :=
  match args.toList with
    | [x, y] => match evF T x, evF T y with
      | some (.int k a), some (.int _ b) => some (.int k (match ltI b a with | true => b | false => a), none)
      | _, _ => none
    | _ => none

theorem puminF_eq (ty : Tr TI) (h : Tr AObj) (nm : Nat) (T : Tr AV) (args : Array Operand) : puminF ty h nm T args = pumin ty h nm T args := by
  simp only [puminF, pumin, evF_eq] <;> rfl

def pumaxF (ty : Tr TI) (h : Tr AObj) (nm : Nat) (T : Tr AV) (args : Array Operand) : Option (AV × Option AObj) :=
  match args.toList with
    | [x, y] => match evF T x, evF T y with
      | some (.int k a), some (.int _ b) => some (.int k (match ltI a b with | true => b | false => a), none)
      | _, _ => none
    | _ => none

theorem pumaxF_eq (ty : Tr TI) (h : Tr AObj) (nm : Nat) (T : Tr AV) (args : Array Operand) : pumaxF ty h nm T args = pumax ty h nm T args := by
  simp only [pumaxF, pumax, evF_eq] <;> rfl

def firstAF (h : Tr AObj) (size n : Nat) : AV → Option (List AV)
  | .slice none _ _ _ => match n with
    | 0 => some []
    | _ + 1 => none
  | .slice (some (b, o)) _ _ _ => match h.getF b with
    | some (.cells cs _ _) => cutF cs o (n * size)
    | _ => none
  | .str s => match take s n with
    | some l => some (l.map fun b => .int .u8 (.ofNat b))
    | none => none
  | _ => none

theorem firstAF_eq (h : Tr AObj) (size n : Nat) : ∀ x0, firstAF h size n x0 = firstA h size n x0 := by
  intro x0
  unfold firstAF firstA
  simp only [Tr.getF_eq, cutF_eq] <;> rfl

def appendAF (ty : Tr TI) (S : St) (t xt : TypeId) (s x : AV) : Option (AV × St) :=
  match ty.get t, ty.get xt, s, lenA x with
  | some ti, some tx, .slice base len room more, some n => match ti.kd, tx.kd with
    | _, .int _ => none
    | _, .other => none
    | .slice e, _ => match ty.get e with
      | none => none
      | some te => match firstAF S.heap te.size n x with
        | none => none
        | some new => match Nat.ble n room with
          | true => match n with
            | 0 => some (.slice base len room more, S)
            | _ + 1 => match base with
              | none => none
              | some (b, o) => match S.heap.getF b with
                | some (.cells cs el mo) => match layF cs (o + len * te.size) new, allOneF new with
                  | some cs', true => match S.setF b (some (.cells cs' el mo)) with
                    | some S => some (.slice (some (b, o)) (len + n) (room - n) more, S)
                    | none => none
                  | _, _ => none
                | _ => none
          | false => match firstAF S.heap te.size len s, Nat.ble (len + n) 1000000, Nat.ble te.bytes 1000000, te.bytes with
            | some old, true, true, _ + 1 => match Nat.beq (old.length + new.length) ((len + n) * te.size) with
              | false => none
              | true => match more with
                | none => S.pushJ old new e (some (S.syms, te.size)) fun S' => some (.slice (some (S.next, 0)) (len + n) 0 (some S.syms), S')
                | some sy => match base, room, allOneF new with
                  | some (b, 0), 0, true => match S.heap.getF b with
                    | some (.cells cs el (some (sy', z))) => match Nat.beq sy sy' && Nat.beq z te.size && Nat.beq el e && Nat.beq (len * te.size) cs.length, S.setF b none with
                      | true, some S => S.pushJ old new e (some (S.syms, te.size)) fun S' => some (.slice (some (S.next, 0)) (len + n) 0 (some S.syms), S')
                      | _, _ => none
                    | _ => none
                  | _, _, _ => none
            | _, _, _, _ => none
    | _, _ => none
  | _, _, _, _ => none

theorem appendAF_eq (ty : Tr TI) (S : St) (t xt : TypeId) (s x : AV) : appendAF ty S t xt s x = appendA ty S t xt s x := by
  simp only [appendAF, appendA, Tr.getF_eq, layF_eq, allOneF_eq, St.setF_eq, St.pushJ_eq, firstAF_eq] <;> rfl

def efstoreF (ty : Tr TI) (S : St) (T : Tr AV) (t : TypeId) (a x : Operand) : Option (AV × St) :=
  match ty.get t, evF T a, evF T x with
    | some ti, some (.ptr (some (n, o))), some v => match S.heap.getF n with
      | some (.cells cs e mo) =>
        let vc := v.cells
        match Nat.beq vc.length ti.size && allOneF vc with
        | true => match layF cs o vc with
          | some cs' => match S.setF n (some (.cells cs' e mo)) with
            | some S => some (undefA, S)
            | none => none
          | none => none
        | false => none
      | _ => none
    | _, _, _ => none

theorem efstoreF_eq (ty : Tr TI) (S : St) (T : Tr AV) (t : TypeId) (a x : Operand) : efstoreF ty S T t a x = efstore ty S T t a x := by
  simp only [efstoreF, efstore, evF_eq, Tr.getF_eq, layF_eq, allOneF_eq, St.setF_eq] <;> rfl

def efmapUpdateF (ty : Tr TI) (S : St) (T : Tr AV) (t : TypeId) (m k x : Operand) : Option (AV × St) :=
  match ty.get t, evF T m, evF T k, evF T x with
    | some ti, some (.map (some r)), some k, some v => match ti.kd with
      | .map kt _ => match plainKey ty 4 kt k, S.heap.getF r with
        | true, some (.map es clock) => match keyIn ty kt k es 0 with
          | some none => match S.set r (some (.map (es ++ [(k, v, clock)]) (clock + 1))) with
            | some S => some (undefA, S)
            | none => none
          | _ => none
        | _, _ => none
      | _ => none
    | _, _, _, _ => none

theorem efmapUpdateF_eq (ty : Tr TI) (S : St) (T : Tr AV) (t : TypeId) (m k x : Operand) : efmapUpdateF ty S T t m k x = efmapUpdate ty S T t m k x := by
  simp only [efmapUpdateF, efmapUpdate, evF_eq, Tr.getF_eq] <;> rfl

def efconvertF (ty : Tr TI) (S : St) (T : Tr AV) (a d : TypeId) (x : Operand) : Option (AV × St) :=
  match ty.get a, ty.get d, evF T x with
    | some _, some td, some (.str l) => match td.kd with
      | .slice e => match ty.get e with
        | some te => match te.kd, Nat.ble l.length 1000000 with
          | .int .u8, true => S.pushS (.cells (l.map fun b => .int .u8 (.ofNat b)) e (some (S.syms, te.size))) fun S' => some (.slice (some (S.next, 0)) l.length 0 (some S.syms), S')
          | _, _ => none
        | none => none
      | _ => none
    | _, _, _ => none

theorem efconvertF_eq (ty : Tr TI) (S : St) (T : Tr AV) (a d : TypeId) (x : Operand) : efconvertF ty S T a d x = efconvert ty S T a d x := by
  simp only [efconvertF, efconvert, evF_eq] <;> rfl

def efappendF (ty : Tr TI) (S : St) (T : Tr AV) (args : Array Operand) (argTypes : Array TypeId) : Option (AV × St) :=
  match argTypes.toList, args.toList with
    | [t, xt], [s, x] => match evF T s, evF T x with
      | some s, some x => appendAF ty S t xt s x
      | _, _ => none
    | _, _ => none

theorem efappendF_eq (ty : Tr TI) (S : St) (T : Tr AV) (args : Array Operand) (argTypes : Array TypeId) : efappendF ty S T args argTypes = efappend ty S T args argTypes := by
  simp only [efappendF, efappend, evF_eq, appendAF_eq] <;> rfl

def efcopyF (ty : Tr TI) (S : St) (T : Tr AV) (args : Array Operand) (argTypes : Array TypeId) : Option (AV × St) :=
  match argTypes.toList, args.toList with
    | t :: _, [d, x] => match ty.get t, evF T d, evF T x with
      | some ti, some (.slice base dl _ _), some x => match ti.kd, lenA x with
        | .slice e, some xl => match ty.get e with
          | some te =>
            match firstAF S.heap te.size (minA xl dl) x with
            | some cs => match minA xl dl, base with
              | 0, _ => some (.int .i64 0, S)
              | _ + 1, none => none
              | n + 1, some (b, o) => match S.heap.getF b with
                | some (.cells old el mo) => match layF old o cs, allOneF cs with
                  | some l, true => match S.setF b (some (.cells l el mo)) with
                    | some S => some (.int .i64 (.ofNat (n + 1)), S)
                    | none => none
                  | _, _ => none
                | _ => none
            | none => none
          | none => none
        | _, _ => none
      | _, _, _ => none
    | _, _ => none

theorem efcopyF_eq (ty : Tr TI) (S : St) (T : Tr AV) (args : Array Operand) (argTypes : Array TypeId) : efcopyF ty S T args argTypes = efcopy ty S T args argTypes := by
  simp only [efcopyF, efcopy, evF_eq, Tr.getF_eq, layF_eq, allOneF_eq, St.setF_eq, firstAF_eq] <;> rfl

def calleeAF (T : Tr AV) (c : Call) : Option (FuncId × List AV) :=
  match c.callee with
  | .value f => match evF T f, evsF T c.args.toList with
    | some (.func (.func g) first captured), some args => some (g, first ++ args ++ captured)
    | _, _ => none
  | _ => none

theorem calleeAF_eq (T : Tr AV) (c : Call) : calleeAF T c = calleeA T c := by
  simp only [calleeAF, calleeA, evF_eq, evsF_eq] <;> rfl

end
end Go.Exe
namespace Go.Exe
noncomputable section

def pubuiltinF (b : Builtin) (args : Array Operand) (argTypes : Array TypeId) (ty : Tr TI) (h : Tr AObj) (nm : Nat) (T : Tr AV) : Option (AV × Option AObj) :=
  match b with
  | .len => pulenF ty h nm T args argTypes
  | .min => puminF ty h nm T args
  | .max => pumaxF ty h nm T args
  | _ => none

def pucallF (ty : Tr TI) (h : Tr AObj) (nm : Nat) (T : Tr AV) (c : Call) : Option (AV × Option AObj) :=
  Call.rec (motive := fun _ => Tr TI → Tr AObj → Nat → Tr AV → Option (AV × Option AObj))
    (fun callee args argTypes ty h nm T => Callee.rec (motive := fun _ => Array Operand → Array TypeId → Tr TI → Tr AObj → Nat → Tr AV → Option (AV × Option AObj))
      (fun _ _ _ _ _ _ _ => none) (fun _ _ _ _ _ _ _ _ => none) (fun b args argTypes ty h nm T => pubuiltinF b args argTypes ty h nm T) callee args argTypes ty h nm T)
    c ty h nm T

def pureF (ty : Tr TI) (h : Tr AObj) (nm : Nat) (T : Tr AV) (op : Op) : Option (AV × Option AObj) :=
  Op.rec (motive := fun _ => Tr TI → Tr AObj → Nat → Tr AV → Option (AV × Option AObj))
    (fun x' ty h nm T => Option.rec (motive := fun _ => Option (AV × Option AObj)) none (fun v => some (v, none)) (evF T x'))
    (fun x' ty h nm T => Option.rec (motive := fun _ => Option (AV × Option AObj)) none (fun v => some (v, none)) (evF T x'))
    (fun c' a' b' ty h nm T => pupickF ty h nm T c' a' b')
    (fun e' ty h nm T => pualloc ty h nm T e')
    (fun e' v' ty h nm T => puboxF ty h nm T e' v')
    (fun t' parts' ty h nm T => pubuildF ty h nm T t' parts')
    (fun t' len' parts' ty h nm T => pubuildSliceF ty h nm T t' len' parts')
    (fun _ _ _ _ _ _ _ _ => none)
    (fun t' a' ty h nm T => puloadF ty h nm T t' a')
    (fun _ _ _ _ _ _ _ => none)
    (fun _ _ _ _ _ => none)
    (fun _ _ _ _ _ => none)
    (fun x' ty h nm T => punilCheckF ty h nm T x')
    (fun op' t' x' y' u' ty h nm T => pubinOpF ty h nm T op' t' x' y')
    (fun op' t' x' ty h nm T => puunOpF ty h nm T op' x')
    (fun s' d' x' ty h nm T => puconvertF ty h nm T s' d' x')
    (fun _ _ _ _ _ _ => none)
    (fun t' x' ty h nm T => pumakeInterfaceF ty h nm T t' x')
    (fun fn' a' b' ty h nm T => pumakeFuncF ty h nm T fn' a' b')
    (fun t' r' ty h nm T => Option.rec (motive := fun _ => Nat → Option (AV × Option AObj)) (fun nm => some (.map (some nm), some (.map [] 0))) (fun _ _ => none) r' nm)
    (fun _ _ _ _ _ _ => none)
    (fun t' l' c' ty h nm T => pumakeSliceF ty h nm T t' l' c')
    (fun t' x' lo' hi' mx' ty h nm T => Option.rec (motive := fun _ => Tr TI → Tr AObj → Nat → Tr AV → TypeId → Operand → Option Operand → Option Operand → Option (AV × Option AObj)) (fun ty h nm T t x lo hi => pusliceF ty h nm T t x lo hi) (fun _ _ _ _ _ _ _ _ _ => none) mx' ty h nm T t' x' lo' hi')
    (fun t' x' f' ty h nm T => pufieldAddrF ty h nm T t' x' f')
    (fun t' x' f' ty h nm T => pufieldF ty h nm T t' x' f')
    (fun t' x' i' ty h nm T => puindexAddrF ty h nm T t' x' i')
    (fun t' x' i' ty h nm T => puindexF ty h nm T t' x' i')
    (fun t' x' i' ok' ty h nm T => pulookupF ty h nm T t' x' i' ok')
    (fun _ _ _ _ _ _ _ _ => none)
    (fun _ _ _ _ _ _ _ => none)
    (fun _ _ _ _ _ _ _ _ => none)
    (fun _ _ _ _ _ _ => none)
    (fun _ _ _ _ _ _ => none)
    (fun _ _ _ _ _ => none)
    (fun x' s' as' ok' ty h nm T => putypeAssertF ty h nm T x' as' ok')
    (fun t' i' ty h nm T => puextractF ty h nm T t' i')
    (fun c' ty h nm T => pucallF ty h nm T c')
    (fun _ _ _ _ _ => none)
    (fun _ _ _ _ _ => none)
    (fun _ _ _ _ _ => none)
    (fun _ _ _ _ _ _ => none)
    (fun _ _ _ _ _ _ _ => none)
    (fun _ _ _ _ _ _ => none)
    op ty h nm T

theorem pureF_eq (ty : Tr TI) (h : Tr AObj) (nm : Nat) (T : Tr AV) (op : Op) : pureF ty h nm T op = pureOp ty h nm T op := by
  cases op with
  | move x =>
    show Option.rec (motive := fun _ => Option (AV × Option AObj)) none (fun v => some (v, none)) (evF T x) = _
    rw [evF_eq]
    unfold pureOp
    simp only
    cases ev T x <;> rfl
  | assign x =>
    show Option.rec (motive := fun _ => Option (AV × Option AObj)) none (fun v => some (v, none)) (evF T x) = _
    rw [evF_eq]
    unfold pureOp
    simp only
    cases ev T x <;> rfl
  | pick c a b => exact pupickF_eq ty h nm T c a b
  | box e v => exact puboxF_eq ty h nm T ..
  | build t ps => exact pubuildF_eq ty h nm T ..
  | buildSlice t n ps => exact pubuildSliceF_eq ty h nm T ..
  | load t a => exact puloadF_eq ty h nm T ..
  | nilCheck x => exact punilCheckF_eq ty h nm T ..
  | binOp op t x y u => exact pubinOpF_eq ty h nm T ..
  | unOp op t x => exact puunOpF_eq ty h nm T ..
  | convert s d x => exact puconvertF_eq ty h nm T ..
  | makeInterface t x => exact pumakeInterfaceF_eq ty h nm T ..
  | makeSlice t l c => exact pumakeSliceF_eq ty h nm T ..
  | makeFunc fn a b => exact pumakeFuncF_eq ty h nm T ..
  | makeMap t r => cases r <;> rfl
  | slice t x lo hi mx =>
    cases mx
    · exact pusliceF_eq ty h nm T ..
    · rfl
  | fieldAddr t x f => exact pufieldAddrF_eq ty h nm T ..
  | field t x f => exact pufieldF_eq ty h nm T ..
  | indexAddr t x i => exact puindexAddrF_eq ty h nm T ..
  | index t x i => exact puindexF_eq ty h nm T ..
  | lookup t x i ok => exact pulookupF_eq ty h nm T ..
  | extract t i => exact puextractF_eq ty h nm T ..
  | typeAssert x s as ok => exact putypeAssertF_eq ty h nm T ..
  | call c =>
    obtain ⟨callee, args, argTypes⟩ := c
    cases callee with
    | value f => rfl
    | invoke r m => rfl
    | builtin b =>
      show pubuiltinF b args argTypes ty h nm T = _
      cases b with
      | len => exact pulenF_eq ty h nm T args argTypes
      | min => exact puminF_eq ty h nm T args
      | max => exact pumaxF_eq ty h nm T args
      | _ => rfl
  | _ => rfl

def efbuiltinF (b : Builtin) (args : Array Operand) (argTypes : Array TypeId) (ty : Tr TI) (S : St) (T : Tr AV) : Option (AV × St) :=
  match b with
  | .append => efappendF ty S T args argTypes
  | .copy => efcopyF ty S T args argTypes
  | _ => none

def efcallF (ty : Tr TI) (S : St) (T : Tr AV) (c : Call) : Option (AV × St) :=
  Call.rec (motive := fun _ => Tr TI → St → Tr AV → Option (AV × St))
    (fun callee args argTypes ty S T => Callee.rec (motive := fun _ => Array Operand → Array TypeId → Tr TI → St → Tr AV → Option (AV × St))
      (fun _ _ _ _ _ _ => none) (fun _ _ _ _ _ _ _ => none) (fun b args argTypes ty S T => efbuiltinF b args argTypes ty S T) callee args argTypes ty S T)
    c ty S T

def effF (ty : Tr TI) (S : St) (T : Tr AV) (op : Op) : Option (AV × St) :=
  Op.rec (motive := fun _ => Tr TI → St → Tr AV → Option (AV × St))
    (fun _ _ _ _ => none)
    (fun _ _ _ _ => none)
    (fun _ _ _ _ _ _ => none)
    (fun _ _ _ _ => none)
    (fun _ _ _ _ _ => none)
    (fun _ _ _ _ _ => none)
    (fun _ _ _ _ _ _ => none)
    (fun _ _ _ _ _ _ _ => none)
    (fun _ _ _ _ _ => none)
    (fun t' a' v' ty S T => efstoreF ty S T t' a' v')
    (fun _ _ _ _ => none)
    (fun _ _ _ _ => none)
    (fun _ _ _ _ => none)
    (fun _ _ _ _ _ _ _ _ => none)
    (fun _ _ _ _ _ _ => none)
    (fun s' d' x' ty S T => efconvertF ty S T s' d' x')
    (fun _ _ _ _ _ => none)
    (fun _ _ _ _ _ => none)
    (fun _ _ _ _ _ _ => none)
    (fun _ _ _ _ _ => none)
    (fun _ _ _ _ _ => none)
    (fun _ _ _ _ _ _ => none)
    (fun _ _ _ _ _ _ _ _ => none)
    (fun _ _ _ _ _ _ => none)
    (fun _ _ _ _ _ _ => none)
    (fun _ _ _ _ _ _ => none)
    (fun _ _ _ _ _ _ => none)
    (fun _ _ _ _ _ _ _ => none)
    (fun t' m' k' v' ty S T => efmapUpdateF ty S T t' m' k' v')
    (fun _ _ _ _ _ _ => none)
    (fun _ _ _ _ _ _ _ => none)
    (fun _ _ _ _ _ => none)
    (fun _ _ _ _ _ => none)
    (fun _ _ _ _ => none)
    (fun _ _ _ _ _ _ _ => none)
    (fun _ _ _ _ _ => none)
    (fun c' ty S T => efcallF ty S T c')
    (fun _ _ _ _ => none)
    (fun _ _ _ _ => none)
    (fun _ _ _ _ => none)
    (fun _ _ _ _ _ => none)
    (fun _ _ _ _ _ _ => none)
    (fun _ _ _ _ _ => none)
    op ty S T

theorem effF_eq (ty : Tr TI) (S : St) (T : Tr AV) (op : Op) : effF ty S T op = effOp ty S T op := by
  cases op with
  | store t a x => exact efstoreF_eq ty S T ..
  | mapUpdate t m k x => exact efmapUpdateF_eq ty S T ..
  | convert a d x => exact efconvertF_eq ty S T ..
  | call c =>
    obtain ⟨callee, args, argTypes⟩ := c
    cases callee with
    | value f => rfl
    | invoke r m => rfl
    | builtin b =>
      show efbuiltinF b args argTypes ty S T = _
      cases b with
      | append => exact efappendF_eq ty S T args argTypes
      | copy => exact efcopyF_eq ty S T args argTypes
      | _ => rfl
  | _ => rfl
end
end Go.Exe
