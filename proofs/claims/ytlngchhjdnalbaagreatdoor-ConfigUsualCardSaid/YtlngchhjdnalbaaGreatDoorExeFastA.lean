/- The executor once more, written by recursors whose cases are closed: the same functions, cheaper for the kernel. First: trees, values, operands. -/
import Derived.Test.YtlngchhjdnalbaaGreatDoorExeEq
set_option linter.unusedVariables false
set_option linter.unusedSimpArgs false
namespace Go.Exe
noncomputable section

def Tr.getF {α : Type} (t : Tr α) (n : Nat) : Option α :=
  Tr.rec (motive := fun _ => Nat → Option α) (fun _ => none)
    (fun _ v _ gl gr n => Nat.rec (motive := fun _ => (Nat → Option α) → (Nat → Option α) → Option α → Option α)
      (fun _ _ v => v)
      (fun m _ gl gr _ => Nat.rec (motive := fun _ => (Nat → Option α) → (Nat → Option α) → Nat → Option α)
        (fun gl _ k => gl k) (fun _ _ _ gr k => gr k) (Nat.mod m 2) gl gr (Nat.div m 2))
      n gl gr v) t n

theorem Tr.getF_eq {α : Type} : ∀ (t : Tr α) (n : Nat), t.getF n = t.get n
  | .nil, n => by cases n <;> rfl
  | .node l v r, 0 => rfl
  | .node l v r, m + 1 => by
    have hl := Tr.getF_eq l (m / 2)
    have hr := Tr.getF_eq r (m / 2)
    unfold Tr.get
    simp only
    rw [← hl, ← hr]
    show (Nat.rec (motive := fun _ => (Nat → Option α) → (Nat → Option α) → Nat → Option α)
        (fun gl _ k => gl k) (fun _ _ _ gr k => gr k) (m % 2) l.getF r.getF (m / 2)) = _
    cases m % 2 <;> rfl

/-- As Tr.putK, by recursors. -/
def Tr.putF {α β : Type} (f : Nat) (t : Tr α) (n : Nat) (x : Option α) (k : Tr α → β) : β :=
  Nat.rec (motive := fun _ => Tr α → Nat → Option α → (Tr α → β) → β)
    (fun t _ _ k => k t)
    (fun _ ih t n x k => Tr.rec (motive := fun _ => (Tr α → Nat → Option α → (Tr α → β) → β) → Nat → Option α → (Tr α → β) → β)
      (fun ih n x k => Nat.rec (motive := fun _ => (Tr α → Nat → Option α → (Tr α → β) → β) → Option α → (Tr α → β) → β)
        (fun _ x k => k (.node .nil x .nil))
        (fun m _ ih x k => Nat.rec (motive := fun _ => (Tr α → Nat → Option α → (Tr α → β) → β) → Nat → Option α → (Tr α → β) → β)
          (fun ih m x k => ih .nil m x (fun l => k (.node l none .nil)))
          (fun _ _ ih m x k => ih .nil m x (fun r => k (.node .nil none r)))
          (Nat.mod m 2) ih (Nat.div m 2) x k)
        n ih x k)
      (fun l v r _ _ ih n x k => Nat.rec (motive := fun _ => (Tr α → Nat → Option α → (Tr α → β) → β) → Tr α → Option α → Tr α → Option α → (Tr α → β) → β)
        (fun _ l _ r x k => k (.node l x r))
        (fun m _ ih l v r x k => Nat.rec (motive := fun _ => (Tr α → Nat → Option α → (Tr α → β) → β) → Tr α → Option α → Tr α → Nat → Option α → (Tr α → β) → β)
          (fun ih l v r m x k => ih l m x (fun l => k (.node l v r)))
          (fun _ _ ih l v r m x k => ih r m x (fun r => k (.node l v r)))
          (Nat.mod m 2) ih l v r (Nat.div m 2) x k)
        n ih l v r x k)
      t ih n x k)
    f t n x k

theorem Tr.putF_eq {α β : Type} : ∀ (f : Nat) (t : Tr α) (n : Nat) (x : Option α) (k : Tr α → β), Tr.putF f t n x k = Tr.putK f t n x k
  | 0, t, n, x, k => by cases t <;> rfl
  | f + 1, .nil, 0, x, k => rfl
  | f + 1, .nil, m + 1, x, k => by
    unfold Tr.putK
    simp only
    show (Nat.rec (motive := fun _ => (Tr α → Nat → Option α → (Tr α → β) → β) → Nat → Option α → (Tr α → β) → β)
          (fun ih m x k => ih .nil m x (fun l => k (.node l none .nil)))
          (fun _ _ ih m x k => ih .nil m x (fun r => k (.node .nil none r)))
          (m % 2) (fun t n x k => Tr.putF f t n x k) (m / 2) x k : β) = _
    cases m % 2 with
    | zero => exact Tr.putF_eq f _ _ _ _
    | succ j => exact Tr.putF_eq f _ _ _ _
  | f + 1, .node l v r, 0, x, k => rfl
  | f + 1, .node l v r, m + 1, x, k => by
    unfold Tr.putK
    simp only
    show (Nat.rec (motive := fun _ => (Tr α → Nat → Option α → (Tr α → β) → β) → Tr α → Option α → Tr α → Nat → Option α → (Tr α → β) → β)
          (fun ih l v r m x k => ih l m x (fun l => k (.node l v r)))
          (fun _ _ ih l v r m x k => ih r m x (fun r => k (.node l v r)))
          (m % 2) (fun t n x k => Tr.putF f t n x k) l v r (m / 2) x k : β) = _
    cases m % 2 with
    | zero => exact Tr.putF_eq f _ _ _ _
    | succ j => exact Tr.putF_eq f _ _ _ _

def evF (T : Tr AV) (o : Operand) : Option AV :=
  Operand.rec (motive := fun _ => Tr AV → Option AV)
    (fun t T => Option.rec (motive := fun _ => Option AV) (some undefA) (fun v => some v) (T.getF t))
    (fun v _ => absV 4 v)
    (fun g _ => Bool.rec (motive := fun _ => Nat → Option AV) (fun g => some (.ptr (some (g, 0)))) (fun _ => none) (Nat.ble 64 g) g)
    (fun f _ => some (.func (.func f) [] []))
    o T

theorem evF_eq (T : Tr AV) (o : Operand) : evF T o = ev T o := by
  cases o with
  | tmp t =>
    show (Option.rec (motive := fun _ => Option AV) (some undefA) (fun v => some v) (T.getF t)) = _
    rw [Tr.getF_eq]
    unfold ev
    simp only
    cases T.get t <;> rfl
  | const v => rfl
  | global g =>
    show (Bool.rec (motive := fun _ => Nat → Option AV) (fun g => some (.ptr (some (g, 0)))) (fun _ => none) (Nat.ble 64 g) g) = _
    unfold ev
    simp only
    cases Nat.ble 64 g <;> rfl
  | func f => rfl

def wantedF (ops : List Oper) (T : Tr AV) (g : Option (Nat × Bool)) : Bool :=
  Option.rec (motive := fun _ => List Oper → Tr AV → Bool) (fun _ _ => true)
    (fun g ops T => wantedA ops T (some g)) g ops T
theorem wantedF_eq (ops : List Oper) (T : Tr AV) (g : Option (Nat × Bool)) : wantedF ops T g = wantedA ops T g := by
  cases g <;> rfl

def fNF {α : Type} (n : Nat) (k : Nat → α) : α :=
  Nat.rec (motive := fun _ => (Nat → α) → α) (fun k => k 0) (fun m _ k => k (Nat.succ m)) n k
theorem fNF_eq {α : Type} (n : Nat) (k : Nat → α) : fNF n k = k n := by cases n <;> rfl

def fIF {α : Type} (n : Int) (k : Int → α) : α :=
  Int.rec (motive := fun _ => (Int → α) → α) (fun m k => fNF m fun m => k (.ofNat m)) (fun m k => fNF m fun m => k (.negSucc m)) n k
theorem fIF_eq {α : Type} (n : Int) (k : Int → α) : fIF n k = k n := by cases n <;> exact fNF_eq _ _

def fBF {α : Type} (b : Bool) (k : Bool → α) : α :=
  Bool.rec (motive := fun _ => (Bool → α) → α) (fun k => k false) (fun k => k true) b k
theorem fBF_eq {α : Type} (b : Bool) (k : Bool → α) : fBF b k = k b := by cases b <;> rfl

def fPF {α : Type} (p : Nat × Nat) (k : Nat × Nat → α) : α :=
  Prod.rec (motive := fun _ => (Nat × Nat → α) → α) (fun a b k => fNF a fun a => fNF b fun b => k (a, b)) p k
theorem fPF_eq {α : Type} (p : Nat × Nat) (k : Nat × Nat → α) : fPF p k = k p := by
  obtain ⟨a, b⟩ := p
  exact (fNF_eq _ _).trans (fNF_eq _ _)

def fOPF {α : Type} (o : Option (Nat × Nat)) (k : Option (Nat × Nat) → α) : α :=
  Option.rec (motive := fun _ => (Option (Nat × Nat) → α) → α) (fun k => k none) (fun x k => fPF x fun x => k (some x)) o k
theorem fOPF_eq {α : Type} (o : Option (Nat × Nat)) (k : Option (Nat × Nat) → α) : fOPF o k = k o := by
  cases o
  · rfl
  · exact fPF_eq _ (fun x => k (some x))

def fONF {α : Type} (o : Option Nat) (k : Option Nat → α) : α :=
  Option.rec (motive := fun _ => (Option Nat → α) → α) (fun k => k none) (fun x k => fNF x fun x => k (some x)) o k
theorem fONF_eq {α : Type} (o : Option Nat) (k : Option Nat → α) : fONF o k = k o := by
  cases o
  · rfl
  · exact fNF_eq _ (fun x => k (some x))

/-- A list handed on, each by its passing function. -/
def turnF {α β : Type} (l out : List β) (k : List β → α) : α :=
  List.rec (motive := fun _ => List β → (List β → α) → α) (fun out k => k out) (fun x _ ih out k => ih (x :: out) k) l out k
theorem turnF_eq {α β : Type} : ∀ (l out : List β) (k : List β → α), turnF l out k = turnK l out k
  | [], _, _ => rfl
  | x :: xs, out, k => turnF_eq xs (x :: out) k

def gatherF {α β : Type} (f : β → (β → α) → α) (l acc : List β) (k : List β → α) : α :=
  List.rec (motive := fun _ => (β → (β → α) → α) → List β → (List β → α) → α) (fun _ acc k => turnF acc [] k) (fun x _ ih f acc k => f x fun x => ih f (x :: acc) k) l f acc k
theorem gatherF_eq {α β : Type} (f : β → (β → α) → α) : ∀ (l acc : List β) (k : List β → α), gatherF f l acc k = gatherK f l acc k
  | [], acc, k => turnF_eq acc [] k
  | x :: xs, acc, k => congrArg (f x) (funext fun x => gatherF_eq f xs (x :: acc) k)

def fLF {α β : Type} (f : β → (β → α) → α) (l : List β) (k : List β → α) : α := gatherF f l [] k
theorem fLF_eq {α β : Type} (f : β → (β → α) → α) (l : List β) (k : List β → α) : fLF f l k = fL f l k := gatherF_eq f l [] k

def fQF {α : Type} (v : AV) (k : AV → α) : α :=
  AV.rec (motive_1 := fun _ => (AV → α) → α) (motive_2 := fun _ => Unit)
    (fun b k => fBF b fun b => k (.bool b))
    (fun i n k => fIF n fun n => k (.int i n))
    (fun s k => k (.str s))
    (fun a k => fOPF a fun a => k (.ptr a))
    (fun a l r m k => fOPF a fun a => fNF l fun l => fNF r fun r => fONF m fun m => k (.slice a l r m))
    (fun r k => fONF r fun r => k (.map r))
    (fun fn a b _ _ k => k (.func fn a b))
    (fun k => k .nilFunc)
    (fun t v _ k => k (.iface t v))
    (fun k => k .nilIface)
    (fun cs _ k => k (.agg cs))
    (fun vs _ k => k (.tuple vs))
    () (fun _ _ _ _ => ())
    v k
theorem fQF_eq {α : Type} (v : AV) (k : AV → α) : fQF v k = fQ v k := by
  rw [fQ_eq]
  cases v with
  | bool b => exact fBF_eq _ _
  | int i n => exact fIF_eq _ _
  | ptr a => exact fOPF_eq _ _
  | slice a l r m => exact (fOPF_eq _ _).trans ((fNF_eq _ _).trans ((fNF_eq _ _).trans (fONF_eq _ _)))
  | map r => exact fONF_eq _ _
  | _ => rfl

def fWF {α : Type} (v : AV) (k : AV → α) : α :=
  AV.rec (motive_1 := fun _ => (AV → α) → α) (motive_2 := fun _ => Unit)
    (fun b k => fBF b fun b => k (.bool b))
    (fun i n k => fIF n fun n => k (.int i n))
    (fun s k => k (.str s))
    (fun a k => fOPF a fun a => k (.ptr a))
    (fun a l r m k => fOPF a fun a => fNF l fun l => fNF r fun r => fONF m fun m => k (.slice a l r m))
    (fun r k => fONF r fun r => k (.map r))
    (fun fn a b _ _ k => k (.func fn a b))
    (fun k => k .nilFunc)
    (fun t v _ k => k (.iface t v))
    (fun k => k .nilIface)
    (fun cs _ k => fLF fQF cs fun cs => k (.agg cs))
    (fun vs _ k => fLF fQF vs fun vs => k (.tuple vs))
    () (fun _ _ _ _ => ())
    v k
theorem fLF_fQF {α : Type} (l : List AV) (k : List AV → α) : fLF fQF l k = k l := by
  rw [fLF_eq, show (fQF : AV → (AV → α) → α) = fQ from funext fun v => funext fun k => fQF_eq v k]
  exact fL_eq fQ (fun v k => fQ_eq v k) l k
theorem fWF_eq {α : Type} (v : AV) (k : AV → α) : fWF v k = fW v k := by
  rw [fW_eq]
  cases v with
  | bool b => exact fBF_eq _ _
  | int i n => exact fIF_eq _ _
  | ptr a => exact fOPF_eq _ _
  | slice a l r m => exact (fOPF_eq _ _).trans ((fNF_eq _ _).trans ((fNF_eq _ _).trans (fONF_eq _ _)))
  | map r => exact fONF_eq _ _
  | agg cs => exact fLF_fQF _ _
  | tuple cs => exact fLF_fQF _ _
  | _ => rfl

def fXF {α : Type} (q : Bool) (v : AV) (k : AV → α) : α :=
  Bool.rec (motive := fun _ => AV → (AV → α) → α) (fun v k => fWF v k) (fun v k => fV 5 v k) q v k
theorem fXF_eq {α : Type} (q : Bool) (v : AV) (k : AV → α) : fXF q v k = fX q v k := by
  cases q
  · exact fWF_eq v k
  · rfl
end
end Go.Exe
