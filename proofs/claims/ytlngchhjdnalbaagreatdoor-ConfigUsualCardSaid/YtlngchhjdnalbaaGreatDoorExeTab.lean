/- The executor: its tables, checked entry by entry. -/
import Derived.Test.YtlngchhjdnalbaaGreatDoorExeThm
set_option linter.unusedVariables false
set_option linter.unusedSimpArgs false
namespace Go.Exe

def Tr.All {α : Type} (R : Nat → α → Prop) : Tr α → (Nat → Nat) → Prop
  | .nil, _ => True
  | .node l v r, g => (match v with | none => True | some x => R (g 0) x) ∧ Tr.All R l (fun m => g (2 * m + 1)) ∧ Tr.All R r (fun m => g (2 * m + 2))

theorem Tr.All.get {α : Type} {R : Nat → α → Prop} : ∀ {t : Tr α} {g : Nat → Nat} {n : Nat} {x : α}, Tr.All R t g → t.get n = some x → R (g n) x
  | .nil, _, n, _, _, h => by rw [Tr.get_nil] at h; cases h
  | .node l v r, g, n, x, ha, h => by
    obtain ⟨h1, h2, h3⟩ := ha
    rw [Tr.get_node] at h
    cases n with
    | zero => simp only at h; subst h; exact h1
    | succ m =>
      simp only at h
      rcases Nat.mod_two_eq_zero_or_one m with hm | hm
      · rw [hm] at h
        have := h2.get h
        have e : 2 * (m / 2) + 1 = m + 1 := by omega
        rw [e] at this
        exact this
      · rw [hm] at h
        have := h3.get h
        have e : 2 * (m / 2) + 2 = m + 1 := by omega
        rw [e] at this
        exact this

theorem ty_of_all {P : Program} {ty : Tr TI} (h : Tr.All (fun t ti => TIok P t ti) ty (fun n => n)) : TyOk P ty := fun _ _ hg => h.get hg

def FnOk (P : Program) (f : FuncId) (fn : Func) : Prop := P.funcs[f]? = some fn ∧ ∀ args w, (callFunc f args).run P w = .ok (.enter f args) w
theorem fn_of_all {P : Program} {fn : Tr Func} (h : Tr.All (FnOk P) fn (fun n => n)) : ∀ f x, fn.get f = some x → P.funcs[f]? = some x ∧ ∀ args w, (callFunc f args).run P w = .ok (.enter f args) w := fun _ _ hg => h.get hg

theorem zero_of {z : Value} {l : List AV} (h : absL (absV 2) z.cells.toList = some l) : ∀ θ, VRs θ l z.cells.toList := fun _ => absL_sound (absV_sound 2) _ _ h
end Go.Exe
