/- The executor by recursors: what an operation comes to (printed by gen_fastc.py). -/
import Derived.Test.YtlngchhjdnalbaaGreatDoorExeFastB
set_option linter.unusedVariables false
set_option linter.unusedSimpArgs false
namespace Go.Exe
noncomputable section

def pubuiltinF (b : Builtin) (args : Array Operand) (argTypes : Array TypeId) (ty : Tr TI) (h : Tr AObj) (nm : Nat) (T : Tr AV) : Option (AV × Option AObj) :=
  match b with
  | .len => pulenF ty h nm T args argTypes
  | .min => puminF ty h nm T args
  | .max => pumaxF ty h nm T args
  | _ => none

def pucallF (ty : Tr TI) (h : Tr AObj) (nm : Nat) (T : Tr AV) (c : Call) : Option (AV × Option AObj) :=
  Call.rec (motive := fun _ => Tr TI → Tr AObj → Nat → Tr AV → Option (AV × Option AObj))
    (fun callee args argTypes ty h nm T => Callee.rec (motive := fun _ => Array Operand → Array TypeId → Tr TI → Tr AObj → Nat → Tr AV → Option (AV × Option AObj))
      (fun _ _ _ _ _ _ _ => none) (fun _ _ _ _ _ _ _ _ => none) (fun b args argTypes ty h nm T => pubuiltinF b args argTypes ty h nm T) callee args argTypes ty h nm T)
    c ty h nm T

def pureF (ty : Tr TI) (h : Tr AObj) (nm : Nat) (T : Tr AV) (op : Op) : Option (AV × Option AObj) :=
  Op.rec (motive := fun _ => Tr TI → Tr AObj → Nat → Tr AV → Option (AV × Option AObj))
    (fun x' ty h nm T => Option.rec (motive := fun _ => Option (AV × Option AObj)) none (fun v => some (v, none)) (evF T x'))
    (fun x' ty h nm T => Option.rec (motive := fun _ => Option (AV × Option AObj)) none (fun v => some (v, none)) (evF T x'))
    (fun c' a' b' ty h nm T => pupickF ty h nm T c' a' b')
    (fun e' ty h nm T => pualloc ty h nm T e')
    (fun e' v' ty h nm T => puboxF ty h nm T e' v')
    (fun t' parts' ty h nm T => pubuildF ty h nm T t' parts')
    (fun t' len' parts' ty h nm T => pubuildSliceF ty h nm T t' len' parts')
    (fun _ _ _ _ _ _ _ _ => none)
    (fun t' a' ty h nm T => puloadF ty h nm T t' a')
    (fun _ _ _ _ _ _ _ => none)
    (fun _ _ _ _ _ => none)
    (fun _ _ _ _ _ => none)
    (fun x' ty h nm T => punilCheckF ty h nm T x')
    (fun op' t' x' y' u' ty h nm T => pubinOpF ty h nm T op' t' x' y')
    (fun op' t' x' ty h nm T => puunOpF ty h nm T op' x')
    (fun s' d' x' ty h nm T => puconvertF ty h nm T s' d' x')
    (fun _ _ _ _ _ _ => none)
    (fun t' x' ty h nm T => pumakeInterfaceF ty h nm T t' x')
    (fun fn' a' b' ty h nm T => pumakeFuncF ty h nm T fn' a' b')
    (fun t' r' ty h nm T => Option.rec (motive := fun _ => Nat → Option (AV × Option AObj)) (fun nm => some (.map (some nm), some (.map [] 0))) (fun _ _ => none) r' nm)
    (fun _ _ _ _ _ _ => none)
    (fun _ _ _ _ _ _ _ => none)
    (fun t' x' lo' hi' mx' ty h nm T => Option.rec (motive := fun _ => Tr TI → Tr AObj → Nat → Tr AV → TypeId → Operand → Option Operand → Option Operand → Option (AV × Option AObj)) (fun ty h nm T t x lo hi => pusliceF ty h nm T t x lo hi) (fun _ _ _ _ _ _ _ _ _ => none) mx' ty h nm T t' x' lo' hi')
    (fun t' x' f' ty h nm T => pufieldAddrF ty h nm T t' x' f')
    (fun t' x' f' ty h nm T => pufieldF ty h nm T t' x' f')
    (fun t' x' i' ty h nm T => puindexAddrF ty h nm T t' x' i')
    (fun t' x' i' ty h nm T => puindexF ty h nm T t' x' i')
    (fun t' x' i' ok' ty h nm T => pulookupF ty h nm T t' x' i' ok')
    (fun _ _ _ _ _ _ _ _ => none)
    (fun _ _ _ _ _ _ _ => none)
    (fun _ _ _ _ _ _ _ _ => none)
    (fun _ _ _ _ _ _ => none)
    (fun _ _ _ _ _ _ => none)
    (fun _ _ _ _ _ => none)
    (fun x' s' as' ok' ty h nm T => putypeAssertF ty h nm T x' as' ok')
    (fun t' i' ty h nm T => puextractF ty h nm T t' i')
    (fun c' ty h nm T => pucallF ty h nm T c')
    (fun _ _ _ _ _ => none)
    (fun _ _ _ _ _ => none)
    (fun _ _ _ _ _ => none)
    (fun _ _ _ _ _ _ => none)
    (fun _ _ _ _ _ _ _ => none)
    (fun _ _ _ _ _ _ => none)
    op ty h nm T

theorem pureF_eq (ty : Tr TI) (h : Tr AObj) (nm : Nat) (T : Tr AV) (op : Op) : pureF ty h nm T op = pureOp ty h nm T op := by
  cases op with
  | move x =>
    show Option.rec (motive := fun _ => Option (AV × Option AObj)) none (fun v => some (v, none)) (evF T x) = _
    rw [evF_eq]
    unfold pureOp
    simp only
    cases ev T x <;> rfl
  | assign x =>
    show Option.rec (motive := fun _ => Option (AV × Option AObj)) none (fun v => some (v, none)) (evF T x) = _
    rw [evF_eq]
    unfold pureOp
    simp only
    cases ev T x <;> rfl
  | pick c a b => exact pupickF_eq ty h nm T c a b
  | box e v => exact puboxF_eq ty h nm T ..
  | build t ps => exact pubuildF_eq ty h nm T ..
  | buildSlice t n ps => exact pubuildSliceF_eq ty h nm T ..
  | load t a => exact puloadF_eq ty h nm T ..
  | nilCheck x => exact punilCheckF_eq ty h nm T ..
  | binOp op t x y u => exact pubinOpF_eq ty h nm T ..
  | unOp op t x => exact puunOpF_eq ty h nm T ..
  | convert s d x => exact puconvertF_eq ty h nm T ..
  | makeInterface t x => exact pumakeInterfaceF_eq ty h nm T ..
  | makeFunc fn a b => exact pumakeFuncF_eq ty h nm T ..
  | makeMap t r => cases r <;> rfl
  | slice t x lo hi mx =>
    cases mx
    · exact pusliceF_eq ty h nm T ..
    · rfl
  | fieldAddr t x f => exact pufieldAddrF_eq ty h nm T ..
  | field t x f => exact pufieldF_eq ty h nm T ..
  | indexAddr t x i => exact puindexAddrF_eq ty h nm T ..
  | index t x i => exact puindexF_eq ty h nm T ..
  | lookup t x i ok => exact pulookupF_eq ty h nm T ..
  | extract t i => exact puextractF_eq ty h nm T ..
  | typeAssert x s as ok => exact putypeAssertF_eq ty h nm T ..
  | call c =>
    obtain ⟨callee, args, argTypes⟩ := c
    cases callee with
    | value f => rfl
    | invoke r m => rfl
    | builtin b =>
      show pubuiltinF b args argTypes ty h nm T = _
      cases b with
      | len => exact pulenF_eq ty h nm T args argTypes
      | min => exact puminF_eq ty h nm T args
      | max => exact pumaxF_eq ty h nm T args
      | _ => rfl
  | _ => rfl

def efbuiltinF (b : Builtin) (args : Array Operand) (argTypes : Array TypeId) (ty : Tr TI) (S : St) (T : Tr AV) : Option (AV × St) :=
  match b with
  | .append => efappendF ty S T args argTypes
  | .copy => efcopyF ty S T args argTypes
  | _ => none

def efcallF (ty : Tr TI) (S : St) (T : Tr AV) (c : Call) : Option (AV × St) :=
  Call.rec (motive := fun _ => Tr TI → St → Tr AV → Option (AV × St))
    (fun callee args argTypes ty S T => Callee.rec (motive := fun _ => Array Operand → Array TypeId → Tr TI → St → Tr AV → Option (AV × St))
      (fun _ _ _ _ _ _ => none) (fun _ _ _ _ _ _ _ => none) (fun b args argTypes ty S T => efbuiltinF b args argTypes ty S T) callee args argTypes ty S T)
    c ty S T

def effF (ty : Tr TI) (S : St) (T : Tr AV) (op : Op) : Option (AV × St) :=
  Op.rec (motive := fun _ => Tr TI → St → Tr AV → Option (AV × St))
    (fun _ _ _ _ => none)
    (fun _ _ _ _ => none)
    (fun _ _ _ _ _ _ => none)
    (fun _ _ _ _ => none)
    (fun _ _ _ _ _ => none)
    (fun _ _ _ _ _ => none)
    (fun _ _ _ _ _ _ => none)
    (fun _ _ _ _ _ _ _ => none)
    (fun _ _ _ _ _ => none)
    (fun t' a' v' ty S T => efstoreF ty S T t' a' v')
    (fun _ _ _ _ => none)
    (fun _ _ _ _ => none)
    (fun _ _ _ _ => none)
    (fun _ _ _ _ _ _ _ _ => none)
    (fun _ _ _ _ _ _ => none)
    (fun s' d' x' ty S T => efconvertF ty S T s' d' x')
    (fun _ _ _ _ _ => none)
    (fun _ _ _ _ _ => none)
    (fun _ _ _ _ _ _ => none)
    (fun _ _ _ _ _ => none)
    (fun _ _ _ _ _ => none)
    (fun _ _ _ _ _ _ => none)
    (fun _ _ _ _ _ _ _ _ => none)
    (fun _ _ _ _ _ _ => none)
    (fun _ _ _ _ _ _ => none)
    (fun _ _ _ _ _ _ => none)
    (fun _ _ _ _ _ _ => none)
    (fun _ _ _ _ _ _ _ => none)
    (fun t' m' k' v' ty S T => efmapUpdateF ty S T t' m' k' v')
    (fun _ _ _ _ _ _ => none)
    (fun _ _ _ _ _ _ _ => none)
    (fun _ _ _ _ _ => none)
    (fun _ _ _ _ _ => none)
    (fun _ _ _ _ => none)
    (fun _ _ _ _ _ _ _ => none)
    (fun _ _ _ _ _ => none)
    (fun c' ty S T => efcallF ty S T c')
    (fun _ _ _ _ => none)
    (fun _ _ _ _ => none)
    (fun _ _ _ _ => none)
    (fun _ _ _ _ _ => none)
    (fun _ _ _ _ _ _ => none)
    (fun _ _ _ _ _ => none)
    op ty S T

theorem effF_eq (ty : Tr TI) (S : St) (T : Tr AV) (op : Op) : effF ty S T op = effOp ty S T op := by
  cases op with
  | store t a x => exact efstoreF_eq ty S T ..
  | mapUpdate t m k x => exact efmapUpdateF_eq ty S T ..
  | convert a d x => exact efconvertF_eq ty S T ..
  | call c =>
    obtain ⟨callee, args, argTypes⟩ := c
    cases callee with
    | value f => rfl
    | invoke r m => rfl
    | builtin b =>
      show efbuiltinF b args argTypes ty S T = _
      cases b with
      | append => exact efappendF_eq ty S T args argTypes
      | copy => exact efcopyF_eq ty S T args argTypes
      | _ => rfl
  | _ => rfl
end
end Go.Exe
