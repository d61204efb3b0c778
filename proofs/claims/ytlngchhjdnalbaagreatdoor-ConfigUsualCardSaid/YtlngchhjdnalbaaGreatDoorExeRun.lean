/- The executor: a run that goes through tells what the program does. First: what was not written has stayed. -/
import Derived.Test.YtlngchhjdnalbaaGreatDoorExeEq
import Derived.Defers
set_option linter.unusedVariables false
set_option linter.unusedSimpArgs false
namespace Go.Exe
open Go.RowKit

def Out.st : Out → St
  | .code _ _ S => S
  | .call _ S => S

theorem push_eq {α : Type} (S : St) (o : AObj) (k : St → α) : S.push o k = k ⟨Tr.put (Nat.succ S.next) S.heap S.next (some o), Nat.succ S.next, S.syms, Nat.succ S.ver⟩ := by
  unfold St.push
  simp only [fObj_eq, Tr.putK_eq, fN_eq]
theorem pushAt_eq {α : Type} (S : St) (m : Nat) (o : AObj) (k : St → α) : S.pushAt m o k = k ⟨Tr.put (Nat.succ m) S.heap m (some o), S.next, S.syms, Nat.succ S.ver⟩ := by
  unfold St.pushAt
  simp only [fObj_eq, Tr.putK_eq, fN_eq]

theorem allSame_eq {S : St} {T1 : Tr AV} {S1 : St} : ∀ {l : List (Option Out)}, allSame S T1 S1 l = true → ∀ x ∈ l, ∃ T2 S2, x = some (.code .normal T2 S2) ∧ T1 = T2 ∧ eqSt S S1 S2 = true
  | [], _, x, hx => by cases hx
  | y :: r, h, x, hx => by
    unfold allSame at h
    split at h
    · rename_i e; cases e
    · rename_i T2 S2 r' e
      cases e
      split at h
      · rename_i h1
        simp only [Bool.and_eq_true] at h1
        rcases List.mem_cons.1 hx with rfl | hx
        · exact ⟨T2, S2, rfl, eqTr_eq (eqV_eq 5) _ _ h1.1, h1.2⟩
        · exact allSame_eq h x hx
      · cases h
    · cases h

theorem pickSame_eq {S : St} {l : List (Option Out)} {out : Out} (h : pickSame S l = some out) : ∃ T1 S1, out = .code .normal T1 S1 ∧ l ≠ [] ∧ some out ∈ l ∧ ∀ x ∈ l, x = some out ∨ ∃ S2, x = some (.code .normal T1 S2) ∧ eqSt S S1 S2 = true := by
  unfold pickSame at h
  split at h
  · rename_i T1 S1 r
    split at h
    · rename_i h1
      simp only [Option.some.injEq] at h
      subst h
      refine ⟨T1, S1, rfl, by simp, List.mem_cons_self .., fun x hx => ?_⟩
      rcases List.mem_cons.1 hx with rfl | hx
      · exact .inl rfl
      · obtain ⟨T2, S2, rfl, rfl, h2⟩ := allSame_eq h1 x hx
        exact .inr ⟨S2, rfl, h2⟩
    · cases h
  · cases h

theorem eqSt_eq {S A B : St} (hA : Ver S A) (hB : Ver S B) (h : eqSt S A B = true) : A = B := by
  unfold eqSt at h
  split at h
  · rename_i h1 h2
    obtain ⟨a1, a2⟩ := hA.2 (eqN _ _ h1)
    obtain ⟨b1, b2⟩ := hB.2 (eqN _ _ h2)
    have h3 := eqN _ _ h
    have h1 := eqN _ _ h1
    have h2 := eqN _ _ h2
    cases A; cases B
    simp at *
    exact ⟨a1.trans b1.symm, h3, a2.trans b2.symm, by omega⟩
  · simp only [Bool.and_eq_true] at h
    have h1 := eqN _ _ h.1.1.1
    have h2 := eqN _ _ h.1.1.2
    have h3 := eqN _ _ h.1.2
    have h4 := eqTr_eq eqObj_eq _ _ h.2
    cases A; cases B
    simp at *
    exact ⟨h4, h1, h2, h3⟩

/-- The arguments in their slots. -/
def setArgs : List AV → Nat → Tr AV → Tr AV
  | [], _, T => T
  | v :: vs, i, T => setArgs vs (i + 1) (Tr.put (Nat.succ i) T i (some v))

theorem argsT_eq {α : Type} : ∀ (l : List AV) (i : Nat) (T : Tr AV) (k : Tr AV → α), argsT l i T k = k (setArgs l i T)
  | [], _, _, _ => rfl
  | v :: vs, i, T, k => by simp only [argsT, fW_eq, Tr.putK_eq, argsT_eq vs, setArgs]

theorem setArgs_get : ∀ (l : List AV) (i : Nat) (T : Tr AV) (m : Nat), (setArgs l i T).get m = if m < i then T.get m else match l[m - i]? with | some v => some v | none => T.get m
  | [], i, T, m => by simp [setArgs]
  | v :: vs, i, T, m => by
    rw [setArgs, setArgs_get vs, Tr.get_put _ _ _ _ _ (Nat.lt_succ_self i)]
    by_cases h1 : m < i
    · simp [h1, show m < i + 1 by omega, show m ≠ i by omega]
    · by_cases h2 : m = i
      · subst h2; simp
      · rw [if_neg (by omega), if_neg h1, if_neg h2]
        rw [show m - i = (m - (i + 1)) + 1 by omega, List.getElem?_cons_succ]

theorem run_ver (E : Env) : ∀ (fuel nt : Nat) (k : Task) (S : St) (out : Out), run E fuel nt k S = some out → Ver S out.st := by
  intro fuel
  induction fuel with
  | zero => intro nt k S out h; simp [run, rCode, rOps, rCall, rDefer, rEff, rOp, rAny, rFun, rRegion, rHeld] at h
  | succ fuel ih =>
    intro nt k S out h
    cases k with
    | code c T =>
      cases c <;> simp only [run, rCode, rOps, rCall, rDefer, rEff, rOp, rAny, rFun, rRegion, rHeld] at h
      case skip => cases h; exact .refl _
      case label => cases h; exact .refl _
      case seq a b =>
        split at h
        · rename_i T1 S1 h1; exact (ih _ _ _ _ h1).trans (ih _ _ _ _ h)
        · exact ih _ _ _ _ h
      case cond o a b =>
        split at h
        · exact ih _ _ _ _ h
        · exact ih _ _ _ _ h
        · cases h
      case block id b =>
        split at h
        · rename_i id' T1 S1 h1
          have hv := ih _ _ _ _ h1
          split at h <;> (cases h; exact hv)
        · exact ih _ _ _ _ h
      case loop b =>
        split at h
        · rename_i T1 S1 h1; exact (ih _ _ _ _ h1).trans (ih _ _ _ _ h)
        · exact ih _ _ _ _ h
      case exit => cases h; exact .refl _
      case ret => cases h; exact .refl _
      case region id ops d =>
        cases d
        · exact ih _ _ _ _ h
        · simp only at h
          split at h
          · rw [fN_eq] at h
            have key : ∀ {n : Nat} {t : Task} {out : Out}, run E fuel n t ⟨S.heap, S.next + ops.toList.length, S.syms, S.ver⟩ = some out → Ver S out.st := fun h => by
              have := ih _ _ _ _ h
              exact ⟨this.1, fun e => this.2 e⟩
            split at h
            · rename_i h1
              cases h
              split at h1
              · exact key h1
              · cases h1
            · split at h
              · rename_i h1
                cases h
                split at h1
                · exact key h1
                · cases h1
              · exact key h
          · cases h
      all_goals cases h
    | ops all todo T =>
      cases todo with
      | nil => simp only [run, rCode, rOps, rCall, rDefer, rEff, rOp, rAny, rFun, rRegion, rHeld] at h; cases h; exact .refl _
      | cons o rest =>
        simp only [run, rCode, rOps, rCall, rDefer, rEff, rOp, rAny, rFun, rRegion, rHeld] at h
        split at h
        · rename_i T1 S1 h1; exact (ih _ _ _ _ h1).trans (ih _ _ _ _ h)
        · cases h
    | op all o nm T =>
      simp only [run, rCode, rOps, rCall, rDefer, rEff, rOp, rAny, rFun, rRegion, rHeld] at h
      split at h
      · split at h
        · cases h; exact .refl _
        · cases h
      · split at h
        · split at h
          · cases h; exact .refl _
          · cases h
        · split at h
          · split at h
            · rw [push_eq] at h; cases h; exact .up rfl
            · rw [pushAt_eq] at h; cases h; exact .up rfl
          · cases h
        · split at h
          · rename_i he
            split at h
            · cases h; exact eff_ver he
            · cases h
          · split at h
            · split at h
              · split at h
                · rename_i h1
                  have hv := ih _ _ _ _ h1
                  split at h
                  · cases h; exact hv
                  · cases h
                · cases h
              · cases h
            · split at h
              · split at h
                · split at h
                  · cases h; exact .refl _
                  · cases h
                · cases h
              · cases h
            · cases h
    | any ops all n base H todo T =>
      cases todo with
      | nil => simp only [run, rCode, rOps, rCall, rDefer, rEff, rOp, rAny, rFun, rRegion, rHeld] at h; cases h; exact .refl _
      | cons p todo =>
        simp only [run, rCode, rOps, rCall, rDefer, rEff, rOp, rAny, rFun, rRegion, rHeld] at h
        split at h
        · split at h
          · exact ih _ _ _ _ h
          · cases h
        · obtain ⟨T1, S1, rfl, _, hm, _⟩ := pickSame_eq h
          obtain ⟨q, _, hq⟩ := List.mem_map.1 hm
          split at hq
          · rename_i h1
            split at hq
            · exact (ih _ _ _ _ h1).trans (ih _ _ _ _ hq)
            · cases hq
          · cases hq
    | call f args =>
      simp only [run, rCode, rOps, rCall, rDefer, rEff, rOp, rAny, rFun, rRegion, rHeld] at h
      split at h
      · rw [fV_eq] at h; cases h; exact .refl _
      · cases h
      · split at h
        · cases h
        · split at h
          · cases h
          · split at h
            · cases h
            · rw [argsT_eq] at h
              split at h
              · rename_i h1
                have hv := ih _ _ _ _ h1
                split at h
                · cases h; exact hv
                · cases h
              · rename_i h1
                have hv := ih _ _ _ _ h1
                split at h
                · cases h; exact hv
                · cases h
              · cases h
end Go.Exe
