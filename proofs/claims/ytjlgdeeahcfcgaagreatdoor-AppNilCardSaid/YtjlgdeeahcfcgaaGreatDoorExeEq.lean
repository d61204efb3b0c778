/- The executor: states that are found the same are the same; values of which one knows all. The executor: a run that goes through tells what the program does. First: what was not written has stayed. Regions that ask the tape: an operation that reads what the others leave alone may come first; behind those that wait for all such operations nothing is asked. -/
import Derived.Test.YtjlgdeeahcfcgaaGreatDoorExeEff
import Derived.Defers
import Derived.OrdersHeld
set_option linter.unusedVariables false
set_option linter.unusedSimpArgs false
namespace Go.Exe
open Go.RowKit

theorem eqL_eq {α : Type} {f : α → α → Bool} (hf : ∀ x y, f x y = true → x = y) : ∀ (a b : List α), eqL f a b = true → a = b
  | [], [], _ => rfl
  | [], _ :: _, h => by simp [eqL] at h
  | _ :: _, [], h => by simp [eqL] at h
  | x :: xs, y :: ys, h => by
    simp only [eqL] at h
    split at h
    · rename_i h1; rw [hf _ _ h1, eqL_eq hf xs ys h]
    · cases h
theorem eqO_eq {α : Type} {f : α → α → Bool} (hf : ∀ x y, f x y = true → x = y) : ∀ (a b : Option α), eqO f a b = true → a = b
  | none, none, _ => rfl
  | none, some _, h => by simp [eqO] at h
  | some _, none, h => by simp [eqO] at h
  | some x, some y, h => by rw [hf x y h]
theorem eqN (a b : Nat) (h : Nat.beq a b = true) : a = b := Nat.eq_of_beq_eq_true h
theorem eqP_eq (a b : Nat × Nat) (h : eqP a b = true) : a = b := by
  simp only [eqP, Bool.and_eq_true] at h
  exact Prod.ext (eqN _ _ h.1) (eqN _ _ h.2)
theorem eqV_eq : ∀ (d : Nat) (a b : AV), eqV d a b = true → a = b
  | 0, _, _, h => by simp [eqV] at h
  | d + 1, a, b, h => by
    have ih := eqV_eq d
    unfold eqV at h
    split at h
    · simp at h; rw [h]
    · simp only [Bool.and_eq_true, eqI_eq, beq_iff_eq] at h; rw [kindEq_eq h.1, h.2]
    · rw [eqL_eq eqN _ _ h]
    · rw [eqO_eq eqP_eq _ _ h]
    · simp only [Bool.and_eq_true] at h; rw [eqO_eq eqP_eq _ _ h.1.1.1, eqN _ _ h.1.1.2, eqN _ _ h.1.2, eqO_eq eqN _ _ h.2]
    · rw [eqO_eq eqN _ _ h]
    · simp only [Bool.and_eq_true] at h; rw [eqN _ _ h.1.1, eqL_eq ih _ _ h.1.2, eqL_eq ih _ _ h.2]
    · simp only [Bool.and_eq_true] at h; rw [eqN _ _ h.1.1, eqL_eq ih _ _ h.1.2, eqL_eq ih _ _ h.2]
    · rfl
    · simp only [Bool.and_eq_true] at h; rw [eqN _ _ h.1, ih _ _ h.2]
    · rfl
    · rw [eqL_eq ih _ _ h]
    · rw [eqL_eq ih _ _ h]
    · cases h
theorem eqE_eq (a b : AV × AV × Nat) (h : eqE a b = true) : a = b := by
  simp only [eqE, Bool.and_eq_true] at h
  exact Prod.ext (eqV_eq _ _ _ h.1.1) (Prod.ext (eqV_eq _ _ _ h.1.2) (eqN _ _ h.2))
theorem eqObj_eq (a b : AObj) (h : eqObj a b = true) : a = b := by
  cases a <;> cases b <;> simp only [eqObj, Bool.and_eq_true, Bool.false_eq_true] at h
  · rw [eqL_eq (eqV_eq 5) _ _ h.1.1, eqN _ _ h.1.2, eqO_eq eqP_eq _ _ h.2]
  · rw [eqL_eq eqE_eq _ _ h.1, eqN _ _ h.2]
  · rw [eqL_eq (eqV_eq 5) _ _ h.1, eqN _ _ h.2]
  · rw [eqL_eq eqE_eq _ _ h]
theorem eqTr_eq {α : Type} {f : α → α → Bool} (hf : ∀ x y, f x y = true → x = y) : ∀ (a b : Tr α), eqTr f a b = true → a = b
  | .nil, .nil, _ => rfl
  | .nil, .node _ _ _, h => by simp [eqTr] at h
  | .node _ _ _, .nil, h => by simp [eqTr] at h
  | .node l v r, .node l' v' r', h => by
    simp only [eqTr] at h
    split at h
    · rename_i h1
      split at h
      · rename_i h2; rw [eqO_eq hf _ _ h1, eqTr_eq hf _ _ h2, eqTr_eq hf _ _ h]
      · cases h
    · cases h

/-! ### A value of which one knows all stands for one value alone -/
section
set_option linter.unusedSectionVars false
variable [Opn]
theorem VRs.fun {θ : Th} {f : AV → Bool} (hf : ∀ v a b, VR θ v a → VR θ v b → f v = true → a = b) : ∀ (vs : List AV) (a b : List Value), VRs θ vs a → VRs θ vs b → vs.all f = true → a = b
  | [], _, _, .nil, .nil, _ => rfl
  | _ :: _, _, _, .cons _ _ _ _ h1 t1, .cons _ _ _ _ h2 t2, h => by
    simp only [List.all_cons, Bool.and_eq_true] at h
    rw [hf _ _ _ h1 h2 h.1, VRs.fun hf _ _ _ t1 t2 h.2]

theorem VR.fun {θ : Th} : ∀ (d : Nat) (v : AV) (a b : Value), VR θ v a → VR θ v b → AV.sure d v = true → a = b
  | 0, _, _, _, _, _, h => by simp [AV.sure] at h
  | d + 1, v, a, b, h1, h2, h => by
    have ih := VR.fun (θ := θ) d
    cases h1
    case bool => cases h2; rfl
    case int => cases h2; rfl
    case str s =>
      generalize he : List.map UInt8.toNat s.data.toList = l at h2
      cases h2
      rename_i s2
      have := map_toNat_inj he
      cases s; cases s2
      simp at this
      rw [this]
    case ptrN => cases h2; rfl
    case ptr h1 => cases h2; rename_i h2; rw [h1] at h2; cases h2; rfl
    case sliceN e => subst e; cases h2; rename_i e; subst e; rfl
    case slice e h1 => subst e; cases h2; rename_i h2 e; subst e; rw [h1] at h2; cases h2; rfl
    case sliceS e h1 h3 =>
      subst e
      cases h2
      case sliceS h2 e h4 => subst e; rw [h1] at h2; cases h2; rw [h3] at h4; cases h4; rfl
      case slice0 => simp [AV.sure] at h
    case slice0 => simp [AV.sure] at h
    case mapN => cases h2; rfl
    case map h1 => cases h2; rename_i h2; rw [h1] at h2; cases h2; rfl
    case func hp h1 h3 =>
      cases h2
      case func _ h2 h4 =>
        simp only [AV.sure, hp, Bool.and_eq_true] at h
        rw [VRs.fun ih _ _ _ h1 h2 h.1, VRs.fun ih _ _ _ h3 h4 h.2]
      case opn => simp [plainFn] at hp
      case anyS => simp [plainFn] at hp
      case rope => simp [plainFn] at hp
    case opn =>
      cases h2
      case func hp _ _ => simp [plainFn] at hp
      case opn => first | assumption | rfl | (subst_vars; first | assumption | rfl) | simp_all
    case anyS => simp [AV.sure, plainFn] at h
    case rope h1 h3 =>
      cases h2
      case func hp _ _ => simp [plainFn] at hp
      case rope h2 h4 => rw [toNats_inj (RopeOk.fun h3 h4)]
    case nilFunc => cases h2; rfl
    case iface h1 => cases h2; rename_i h2; simp only [AV.sure] at h; rw [ih _ _ _ h1 h2 h]
    case nilIface => cases h2; rfl
    case agg h1 => cases h2; rename_i h2; simp only [AV.sure] at h; rw [VRs.fun ih _ _ _ h1 h2 h]
    case tuple h1 => cases h2; rename_i h2; simp only [AV.sure] at h; rw [VRs.fun ih _ _ _ h1 h2 h]

end

/-! ### A state that was not written -/
def Ver (S S' : St) : Prop := S.ver ≤ S'.ver ∧ (S'.ver = S.ver → S'.heap = S.heap ∧ S'.syms = S.syms)

theorem Ver.refl (S : St) : Ver S S := ⟨Nat.le_refl _, fun _ => ⟨rfl, rfl⟩⟩
theorem Ver.trans {A B C : St} (h : Ver A B) (k : Ver B C) : Ver A C :=
  ⟨Nat.le_trans h.1 k.1, fun e => by
    have h1 := h.1
    have k1 := k.1
    obtain ⟨a, b⟩ := k.2 (by omega)
    obtain ⟨c, d⟩ := h.2 (by omega)
    exact ⟨a.trans c, b.trans d⟩⟩
theorem Ver.up {S S' : St} (h : S'.ver = S.ver + 1) : Ver S S' := ⟨by omega, fun e => by omega⟩

theorem set_ver {S S' : St} {n : Nat} {o : Option AObj} (h : S.set n o = some S') : S'.ver = S.ver + 1 := by
  unfold St.set at h
  split at h
  · rw [fO_eq fObj fObj_eq, Tr.putK_eq] at h
    simp only [Option.some.injEq] at h
    subst h
    rfl
  · cases h

theorem append_ver {ty : Tr TI} {S S' : St} {t xt : TypeId} {s x v : AV} (h : appendA ty S t xt s x = some (v, S')) : Ver S S' := by
  unfold appendA at h
  repeat' split at h
  all_goals first
    | (cases h; done)
    | (simp only [Option.some.injEq, Prod.mk.injEq] at h; obtain ⟨_, rfl⟩ := h; exact .refl _)
    | (rename_i hs; simp only [Option.some.injEq, Prod.mk.injEq] at h; obtain ⟨_, rfl⟩ := h; exact .up (set_ver hs))
    | (unfold St.pushS at h; simp only [fObj_eq, Tr.putK_eq, fN_eq, Option.some.injEq, Prod.mk.injEq] at h; obtain ⟨_, rfl⟩ := h; exact .up rfl)
    | (rename_i hs; unfold St.pushS at h; simp only [fObj_eq, Tr.putK_eq, fN_eq, Option.some.injEq, Prod.mk.injEq] at h; obtain ⟨_, rfl⟩ := h; exact (Ver.up (set_ver hs)).trans (.up rfl))

theorem eff_ver {ty : Tr TI} {S S' : St} {T : Tr AV} {op : Op} {v : AV} (h : effOp ty S T op = some (v, S')) : Ver S S' := by
  unfold effOp efstore efmapUpdate efconvert efappend efcopy at h
  repeat' split at h
  all_goals first
    | (cases h; done)
    | exact append_ver h
    | (simp only [Option.some.injEq, Prod.mk.injEq] at h; obtain ⟨_, rfl⟩ := h; exact .refl _)
    | (rename_i hs; simp only [Option.some.injEq, Prod.mk.injEq] at h; obtain ⟨_, rfl⟩ := h; exact .up (set_ver hs))
    | (dsimp only at h
       repeat' split at h
       all_goals first
         | (cases h; done)
         | (rename_i hs; simp only [Option.some.injEq, Prod.mk.injEq] at h; obtain ⟨_, rfl⟩ := h; exact .up (set_ver hs)))
    | (unfold St.pushS at h; simp only [fObj_eq, Tr.putK_eq, fN_eq, Option.some.injEq, Prod.mk.injEq] at h; obtain ⟨_, rfl⟩ := h; exact .up rfl)
end Go.Exe
namespace Go.Exe
set_option linter.unusedSectionVars false
variable [Opn]
open Go.RowKit

def Out.st : Out → St
  | .code _ _ S => S
  | .call _ S => S

theorem push_eq {α : Type} (S : St) (o : AObj) (k : St → α) : S.push o k = k ⟨Tr.put (Nat.succ S.next) S.heap S.next (some o), Nat.succ S.next, S.syms, Nat.succ S.ver⟩ := by
  unfold St.push
  simp only [fObj_eq, Tr.putK_eq, fN_eq]
theorem pushAt_eq {α : Type} (S : St) (m : Nat) (o : AObj) (k : St → α) : S.pushAt m o k = k ⟨Tr.put (Nat.succ m) S.heap m (some o), S.next, S.syms, Nat.succ S.ver⟩ := by
  unfold St.pushAt
  simp only [fObj_eq, Tr.putK_eq, fN_eq]

theorem allSame_eq {S : St} {T1 : Tr AV} {S1 : St} : ∀ {l : List (Option Out)}, allSame S T1 S1 l = true → ∀ x ∈ l, ∃ T2 S2, x = some (.code .normal T2 S2) ∧ T1 = T2 ∧ eqSt S S1 S2 = true
  | [], _, x, hx => by cases hx
  | y :: r, h, x, hx => by
    unfold allSame at h
    split at h
    · rename_i e; cases e
    · rename_i T2 S2 r' e
      cases e
      split at h
      · rename_i h1
        simp only [Bool.and_eq_true] at h1
        rcases List.mem_cons.1 hx with rfl | hx
        · exact ⟨T2, S2, rfl, eqTr_eq (eqV_eq 5) _ _ h1.1, h1.2⟩
        · exact allSame_eq h x hx
      · cases h
    · cases h

theorem pickSame_eq {S : St} {l : List (Option Out)} {out : Out} (h : pickSame S l = some out) : ∃ T1 S1, out = .code .normal T1 S1 ∧ l ≠ [] ∧ some out ∈ l ∧ ∀ x ∈ l, x = some out ∨ ∃ S2, x = some (.code .normal T1 S2) ∧ eqSt S S1 S2 = true := by
  unfold pickSame at h
  split at h
  · rename_i T1 S1 r
    split at h
    · rename_i h1
      simp only [Option.some.injEq] at h
      subst h
      refine ⟨T1, S1, rfl, by simp, List.mem_cons_self .., fun x hx => ?_⟩
      rcases List.mem_cons.1 hx with rfl | hx
      · exact .inl rfl
      · obtain ⟨T2, S2, rfl, rfl, h2⟩ := allSame_eq h1 x hx
        exact .inr ⟨S2, rfl, h2⟩
    · cases h
  · cases h

theorem eqSt_eq {S A B : St} (hA : Ver S A) (hB : Ver S B) (h : eqSt S A B = true) : A = B := by
  unfold eqSt at h
  split at h
  · rename_i h1 h2
    obtain ⟨a1, a2⟩ := hA.2 (eqN _ _ h1)
    obtain ⟨b1, b2⟩ := hB.2 (eqN _ _ h2)
    have h3 := eqN _ _ h
    have h1 := eqN _ _ h1
    have h2 := eqN _ _ h2
    cases A; cases B
    simp at *
    exact ⟨a1.trans b1.symm, h3, a2.trans b2.symm, by omega⟩
  · simp only [Bool.and_eq_true] at h
    have h1 := eqN _ _ h.1.1.1
    have h2 := eqN _ _ h.1.1.2
    have h3 := eqN _ _ h.1.2
    have h4 := eqTr_eq eqObj_eq _ _ h.2
    cases A; cases B
    simp at *
    exact ⟨h4, h1, h2, h3⟩

/-- The arguments in their slots. -/
def setArgs : List AV → Nat → Tr AV → Tr AV
  | [], _, T => T
  | v :: vs, i, T => setArgs vs (i + 1) (Tr.put (Nat.succ i) T i (some v))

theorem argsT_eq {α : Type} : ∀ (l : List AV) (i : Nat) (T : Tr AV) (k : Tr AV → α), argsT l i T k = k (setArgs l i T)
  | [], _, _, _ => rfl
  | v :: vs, i, T, k => by simp only [argsT, fW_eq, Tr.putK_eq, argsT_eq vs, setArgs]

theorem setArgs_get : ∀ (l : List AV) (i : Nat) (T : Tr AV) (m : Nat), (setArgs l i T).get m = if m < i then T.get m else match l[m - i]? with | some v => some v | none => T.get m
  | [], i, T, m => by simp [setArgs]
  | v :: vs, i, T, m => by
    rw [setArgs, setArgs_get vs, Tr.get_put _ _ _ _ _ (Nat.lt_succ_self i)]
    by_cases h1 : m < i
    · simp [h1, show m < i + 1 by omega, show m ≠ i by omega]
    · by_cases h2 : m = i
      · subst h2; simp
      · rw [if_neg (by omega), if_neg h1, if_neg h2]
        rw [show m - i = (m - (i + 1)) + 1 by omega, List.getElem?_cons_succ]

theorem run_ver (E : Env) {cr : FuncId → List AV → St → Option Out} (hc : ∀ f args S out, cr f args S = some out → Ver S out.st) : ∀ (fuel nt : Nat) (k : Task) (S : St) (out : Out), run E cr fuel nt k S = some out → Ver S out.st := by
  intro fuel
  induction fuel with
  | zero => intro nt k S out h; simp [run, rCode, rOps, rCall, rDefer, rEff, rOp, rAny, rFun, rRegion, rHeld] at h
  | succ fuel ih =>
    intro nt k S out h
    cases k with
    | code c T =>
      cases c <;> simp only [run, rCode, rOps, rCall, rDefer, rEff, rOp, rAny, rFun, rRegion, rHeld] at h
      case skip => cases h; exact .refl _
      case label => cases h; exact .refl _
      case seq a b =>
        split at h
        · rename_i T1 S1 h1; exact (ih _ _ _ _ h1).trans (ih _ _ _ _ h)
        · exact ih _ _ _ _ h
      case cond o a b =>
        split at h
        · exact ih _ _ _ _ h
        · exact ih _ _ _ _ h
        · cases h
      case block id b =>
        split at h
        · rename_i id' T1 S1 h1
          have hv := ih _ _ _ _ h1
          split at h <;> (cases h; exact hv)
        · exact ih _ _ _ _ h
      case loop b =>
        split at h
        · rename_i T1 S1 h1; exact (ih _ _ _ _ h1).trans (ih _ _ _ _ h)
        · exact ih _ _ _ _ h
      case exit => cases h; exact .refl _
      case ret => cases h; exact .refl _
      case region id ops d =>
        cases d
        · exact ih _ _ _ _ h
        · simp only at h
          split at h
          · rw [fN_eq] at h
            have key : ∀ {n : Nat} {t : Task} {out : Out}, run E cr fuel n t ⟨S.heap, S.next + ops.toList.length, S.syms, S.ver⟩ = some out → Ver S out.st := fun h => by
              have := ih _ _ _ _ h
              exact ⟨this.1, fun e => this.2 e⟩
            split at h
            · rename_i h1
              cases h
              split at h1
              · exact key h1
              · cases h1
            · split at h
              · rename_i h1
                cases h
                split at h1
                · exact key h1
                · cases h1
              · exact key h
          · cases h
      all_goals cases h
    | ops all todo T =>
      cases todo with
      | nil => simp only [run, rCode, rOps, rCall, rDefer, rEff, rOp, rAny, rFun, rRegion, rHeld] at h; cases h; exact .refl _
      | cons o rest =>
        simp only [run, rCode, rOps, rCall, rDefer, rEff, rOp, rAny, rFun, rRegion, rHeld] at h
        split at h
        · rename_i T1 S1 h1; exact (ih _ _ _ _ h1).trans (ih _ _ _ _ h)
        · cases h
    | op all o nm T =>
      simp only [run, rCode, rOps, rCall, rDefer, rEff, rOp, rAny, rFun, rRegion, rHeld] at h
      split at h
      · split at h
        · cases h; exact .refl _
        · cases h
      · split at h
        · split at h
          · cases h; exact .refl _
          · cases h
        · split at h
          · split at h
            · rw [push_eq] at h; cases h; exact .up rfl
            · rw [pushAt_eq] at h; cases h; exact .up rfl
          · cases h
        · split at h
          · rename_i he
            split at h
            · cases h; exact eff_ver he
            · cases h
          · split at h
            · split at h
              · split at h
                · rename_i h1
                  have hv := ih _ _ _ _ h1
                  split at h
                  · cases h; exact hv
                  · cases h
                · cases h
              · cases h
            · split at h
              · split at h
                · split at h
                  · cases h; exact .refl _
                  · cases h
                · cases h
              · cases h
            · cases h
    | any ops all n base H todo T =>
      cases todo with
      | nil => simp only [run, rCode, rOps, rCall, rDefer, rEff, rOp, rAny, rFun, rRegion, rHeld] at h; cases h; exact .refl _
      | cons p todo =>
        simp only [run, rCode, rOps, rCall, rDefer, rEff, rOp, rAny, rFun, rRegion, rHeld] at h
        split at h
        · split at h
          · exact ih _ _ _ _ h
          · cases h
        · obtain ⟨T1, S1, rfl, _, hm, _⟩ := pickSame_eq h
          obtain ⟨q, _, hq⟩ := List.mem_map.1 hm
          split at hq
          · rename_i h1
            split at hq
            · exact (ih _ _ _ _ h1).trans (ih _ _ _ _ hq)
            · cases hq
          · cases hq
    | call f args =>
      simp only [run] at h
      exact hc _ _ _ _ h

theorem fun_ver (E : Env) {rec : Nat → Task → St → Option Out} (ih : ∀ nt k S out, rec nt k S = some out → Ver S out.st) {f : FuncId} {args : List AV} {S : St} {out : Out} (h : rFun E rec f args S = some out) : Ver S out.st := by
  simp only [rFun] at h
  split at h
  · rw [fV_eq] at h; cases h; exact .refl _
  · cases h
  · split at h
    · cases h
    · split at h
      · cases h
      · split at h
        · cases h
        · rw [argsT_eq] at h
          split at h
          · rename_i h1
            have hv := ih _ _ _ _ h1
            split at h
            · cases h; exact hv
            · cases h
          · rename_i h1
            have hv := ih _ _ _ _ h1
            split at h
            · cases h; exact hv
            · cases h
          · cases h

theorem calls_ver (E : Env) {memo : FuncId → List AV → St → Option Out} {N : Nat} (hm : ∀ f args S out, memo f args S = some out → Ver S out.st) : ∀ (d : Nat) (f : FuncId) (args : List AV) (S : St) (out : Out), calls E memo N d f args S = some out → Ver S out.st
  | 0, _, _, _, _, h => by simp [calls] at h
  | d + 1, f, args, S, out, h => by
    unfold calls at h
    split at h
    · rename_i o ho
      cases h
      exact hm _ _ _ _ ho
    · exact fun_ver E (run_ver E (calls_ver E hm d) N) h
end Go.Exe
namespace Go.Exe

section
variable {P : Program} {ops : Array Oper} {Q : Exit → Act → World → Prop} {md : Region.Mode} {S : World → Prop} {late : Nat → Bool}

/-- Whatever order is picked, and S holds behind each operation that is not late. -/
def wpAnyL (P : Program) (md : Region.Mode) (ops : Array Oper) (Q : Exit → Act → World → Prop) (S : World → Prop) (late : Nat → Bool) : Nat → Array Bool → Act → World → Prop
  | 0, listed, a, w => Region.ready md ops listed = [] ∧ Q .normal a w
  | fuel + 1, listed, a, w =>
    (Region.ready md ops listed = [] → Q .normal a w) ∧
    ∀ i ∈ Region.ready md ops listed, wpOp P ops Q i (fun a' w' => (late i = false → S w') ∧ wpAnyL P md ops Q S late fuel (listed.setIfInBounds i true) a' w') a w

theorem wpAny_of_L : ∀ (fuel : Nat) (listed : Array Bool) (a : Act) (w : World), wpAnyL P md ops Q S late fuel listed a w → wpAny P md ops Q fuel listed a w
  | 0, _, _, _, h => h
  | fuel + 1, _, _, _, h => ⟨h.1, fun i hi => wpOp_mono (fun a' w' h' => wpAny_of_L fuel _ a' w' h'.2) (h.2 i hi)⟩

/-- S': what the operation asks of the world to yield its value. -/
theorem wpAnyL_first {S' : World → Prop} {i : Nat} {oi : Oper} {v : Value} (hi : ops[i]? = some oi) (hsel : ∀ (j : Nat) (o : Oper) cs b, ops[j]? = some o → o.op ≠ .select cs b)
    (hQ : ∀ c a w, Q (.panic c) (a.put oi.dst v) w → Q (.panic c) a w)
    (hl : late i = false → ∀ j oj, ops[j]? = some oj → (∀ e ∈ oj.after, Region.binds md e = true → e.on ≠ i) → late j = false)
    (hk : (∀ w, S' w) ∨ (late i = false ∧ ∀ w, S w → S' w)) :
    ∀ (fuel : Nat) (listed : Array Bool) (a : Act) (w : World),
      (∀ j oj, ops[j]? = some oj → j ≠ i → listed.getD j true = false → (∀ e ∈ oj.after, Region.binds md e = true → e.on ≠ i) → oi.apart ops oj = true) →
      i ∈ Region.ready md ops listed → YieldsIf P ops S' oi v a → S' w →
      wpAnyL P md ops Q S late fuel (listed.setIfInBounds i true) (a.put oi.dst v) w → (late i = false → S w) → wpAnyL P md ops Q S late (fuel + 1) listed a w := by
  intro fuel
  induction fuel with
  | zero =>
    intro listed a w _ hr hy hS' H hS
    refine ⟨fun h => (by rw [h] at hr; cases hr), fun j hj => ?_⟩
    by_cases hji : j = i
    · subst hji; exact hy.wpOp hi hS' ⟨hS, H⟩
    · have := ready_mono hj hji
      rw [H.1] at this
      cases this
  | succ fuel ih =>
    intro listed a w hfree hr hy hS' H hS
    refine ⟨fun h => (by rw [h] at hr; cases hr), fun j hj => ?_⟩
    by_cases hji : j = i
    · subst hji; exact hy.wpOp hi hS' ⟨hS, H⟩
    · have h1 := H.2 j (ready_mono hj hji)
      obtain ⟨hjun, oj, hoj, hall⟩ := mem_ready.1 hj
      have hnot : ∀ e ∈ oj.after, Region.binds md e = true → e.on ≠ i := fun e he hb heq => by
        have h1 := hall e he hb
        have h0 := (mem_ready.1 hr).1
        rw [heq] at h1
        rcases Nat.lt_or_ge i listed.size with h' | h'
        · simp [h'] at h0 h1; rw [h0] at h1; cases h1
        · simp [Array.getElem?_eq_none h'] at h1
      have h2 := wpOp_putIf hoj (hfree j oj hoj hji hjun hnot) (fun cs b => hsel i oi cs b hi) (fun cs b => hsel j oj cs b hoj) hQ hy h1
      have hfree' : ∀ k ok, ops[k]? = some ok → k ≠ i → (listed.setIfInBounds j true).getD k true = false →
          (∀ e ∈ ok.after, Region.binds md e = true → e.on ≠ i) → oi.apart ops ok = true := fun k ok hk hki hun hno => by
        refine hfree k ok hk hki ?_ hno
        by_cases hjk : j = k
        · subst hjk; exact hjun
        · rw [getD_set_ne true hjk] at hun; exact hun
      refine wpOp_mono (fun a' w' h3 => ?_) h2
      have hSw : late i = false → S w' := fun hli => h3.2.1 (hl hli j oj hoj hnot)
      refine ⟨h3.2.1, ih (listed.setIfInBounds j true) a' w' hfree' (ready_mono hr (Ne.symm hji)) h3.1 ?_ ?_ hSw⟩
      · rcases hk with hk | ⟨h4, h5⟩
        · exact hk w'
        · exact h5 w' (hSw h4)
      · rw [Array.setIfInBounds_comm _ _ hji]
        exact h3.2.2

theorem wpAnyL_done {listed : Array Bool} {a : Act} {w : World} (hr : Region.ready md ops listed = []) (h : Q .normal a w) :
    ∀ fuel, wpAnyL P md ops Q S late fuel listed a w
  | 0 => ⟨hr, h⟩
  | _ + 1 => ⟨fun _ => h, by rw [hr]; simp⟩
end
end Go.Exe
