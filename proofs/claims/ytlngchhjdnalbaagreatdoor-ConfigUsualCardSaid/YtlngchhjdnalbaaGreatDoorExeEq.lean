/- The executor: states that are found the same are the same; values of which one knows all. -/
import Derived.Test.YtlngchhjdnalbaaGreatDoorExeEff3
set_option linter.unusedVariables false
set_option linter.unusedSimpArgs false
namespace Go.Exe
open Go.RowKit

theorem eqL_eq {α : Type} {f : α → α → Bool} (hf : ∀ x y, f x y = true → x = y) : ∀ (a b : List α), eqL f a b = true → a = b
  | [], [], _ => rfl
  | [], _ :: _, h => by simp [eqL] at h
  | _ :: _, [], h => by simp [eqL] at h
  | x :: xs, y :: ys, h => by
    simp only [eqL] at h
    split at h
    · rename_i h1; rw [hf _ _ h1, eqL_eq hf xs ys h]
    · cases h
theorem eqO_eq {α : Type} {f : α → α → Bool} (hf : ∀ x y, f x y = true → x = y) : ∀ (a b : Option α), eqO f a b = true → a = b
  | none, none, _ => rfl
  | none, some _, h => by simp [eqO] at h
  | some _, none, h => by simp [eqO] at h
  | some x, some y, h => by rw [hf x y h]
theorem eqN (a b : Nat) (h : Nat.beq a b = true) : a = b := Nat.eq_of_beq_eq_true h
theorem eqP_eq (a b : Nat × Nat) (h : eqP a b = true) : a = b := by
  simp only [eqP, Bool.and_eq_true] at h
  exact Prod.ext (eqN _ _ h.1) (eqN _ _ h.2)
theorem eqV_eq : ∀ (d : Nat) (a b : AV), eqV d a b = true → a = b
  | 0, _, _, h => by simp [eqV] at h
  | d + 1, a, b, h => by
    have ih := eqV_eq d
    unfold eqV at h
    split at h
    · simp at h; rw [h]
    · simp only [Bool.and_eq_true, eqI_eq, beq_iff_eq] at h; rw [kindEq_eq h.1, h.2]
    · rw [eqL_eq eqN _ _ h]
    · rw [eqO_eq eqP_eq _ _ h]
    · simp only [Bool.and_eq_true] at h; rw [eqO_eq eqP_eq _ _ h.1.1.1, eqN _ _ h.1.1.2, eqN _ _ h.1.2, eqO_eq eqN _ _ h.2]
    · rw [eqO_eq eqN _ _ h]
    · simp only [Bool.and_eq_true] at h; rw [eqN _ _ h.1.1, eqL_eq ih _ _ h.1.2, eqL_eq ih _ _ h.2]
    · rfl
    · simp only [Bool.and_eq_true] at h; rw [eqN _ _ h.1, ih _ _ h.2]
    · rfl
    · rw [eqL_eq ih _ _ h]
    · rw [eqL_eq ih _ _ h]
    · cases h
theorem eqE_eq (a b : AV × AV × Nat) (h : eqE a b = true) : a = b := by
  simp only [eqE, Bool.and_eq_true] at h
  exact Prod.ext (eqV_eq _ _ _ h.1.1) (Prod.ext (eqV_eq _ _ _ h.1.2) (eqN _ _ h.2))
theorem eqObj_eq (a b : AObj) (h : eqObj a b = true) : a = b := by
  cases a <;> cases b <;> simp only [eqObj, Bool.and_eq_true, Bool.false_eq_true] at h
  · rw [eqL_eq (eqV_eq 5) _ _ h.1.1, eqN _ _ h.1.2, eqO_eq eqP_eq _ _ h.2]
  · rw [eqL_eq eqE_eq _ _ h.1, eqN _ _ h.2]
theorem eqTr_eq {α : Type} {f : α → α → Bool} (hf : ∀ x y, f x y = true → x = y) : ∀ (a b : Tr α), eqTr f a b = true → a = b
  | .nil, .nil, _ => rfl
  | .nil, .node _ _ _, h => by simp [eqTr] at h
  | .node _ _ _, .nil, h => by simp [eqTr] at h
  | .node l v r, .node l' v' r', h => by
    simp only [eqTr] at h
    split at h
    · rename_i h1
      split at h
      · rename_i h2; rw [eqO_eq hf _ _ h1, eqTr_eq hf _ _ h2, eqTr_eq hf _ _ h]
      · cases h
    · cases h

/-! ### A value of which one knows all stands for one value alone -/
theorem VRs.fun {θ : Th} {f : AV → Bool} (hf : ∀ v a b, VR θ v a → VR θ v b → f v = true → a = b) : ∀ (vs : List AV) (a b : List Value), VRs θ vs a → VRs θ vs b → vs.all f = true → a = b
  | [], _, _, .nil, .nil, _ => rfl
  | _ :: _, _, _, .cons _ _ _ _ h1 t1, .cons _ _ _ _ h2 t2, h => by
    simp only [List.all_cons, Bool.and_eq_true] at h
    rw [hf _ _ _ h1 h2 h.1, VRs.fun hf _ _ _ t1 t2 h.2]

theorem VR.fun {θ : Th} : ∀ (d : Nat) (v : AV) (a b : Value), VR θ v a → VR θ v b → AV.sure d v = true → a = b
  | 0, _, _, _, _, _, h => by simp [AV.sure] at h
  | d + 1, v, a, b, h1, h2, h => by
    have ih := VR.fun (θ := θ) d
    cases h1
    case bool => cases h2; rfl
    case int => cases h2; rfl
    case str s =>
      generalize he : List.map UInt8.toNat s.data.toList = l at h2
      cases h2
      rename_i s2
      have := map_toNat_inj he
      cases s; cases s2
      simp at this
      rw [this]
    case ptrN => cases h2; rfl
    case ptr h1 => cases h2; rename_i h2; rw [h1] at h2; cases h2; rfl
    case sliceN e => subst e; cases h2; rename_i e; subst e; rfl
    case slice e h1 => subst e; cases h2; rename_i h2 e; subst e; rw [h1] at h2; cases h2; rfl
    case sliceS e h1 h3 =>
      subst e
      cases h2
      case sliceS h2 e h4 => subst e; rw [h1] at h2; cases h2; rw [h3] at h4; cases h4; rfl
      case slice0 => simp [AV.sure] at h
    case slice0 => simp [AV.sure] at h
    case mapN => cases h2; rfl
    case map h1 => cases h2; rename_i h2; rw [h1] at h2; cases h2; rfl
    case func h1 h3 =>
      cases h2
      rename_i h2 h4
      simp only [AV.sure, Bool.and_eq_true] at h
      rw [VRs.fun ih _ _ _ h1 h2 h.1, VRs.fun ih _ _ _ h3 h4 h.2]
    case nilFunc => cases h2; rfl
    case iface h1 => cases h2; rename_i h2; simp only [AV.sure] at h; rw [ih _ _ _ h1 h2 h]
    case nilIface => cases h2; rfl
    case agg h1 => cases h2; rename_i h2; simp only [AV.sure] at h; rw [VRs.fun ih _ _ _ h1 h2 h]
    case tuple h1 => cases h2; rename_i h2; simp only [AV.sure] at h; rw [VRs.fun ih _ _ _ h1 h2 h]

/-! ### A state that was not written -/
def Ver (S S' : St) : Prop := S.ver ≤ S'.ver ∧ (S'.ver = S.ver → S'.heap = S.heap ∧ S'.syms = S.syms)

theorem Ver.refl (S : St) : Ver S S := ⟨Nat.le_refl _, fun _ => ⟨rfl, rfl⟩⟩
theorem Ver.trans {A B C : St} (h : Ver A B) (k : Ver B C) : Ver A C :=
  ⟨Nat.le_trans h.1 k.1, fun e => by
    have h1 := h.1
    have k1 := k.1
    obtain ⟨a, b⟩ := k.2 (by omega)
    obtain ⟨c, d⟩ := h.2 (by omega)
    exact ⟨a.trans c, b.trans d⟩⟩
theorem Ver.up {S S' : St} (h : S'.ver = S.ver + 1) : Ver S S' := ⟨by omega, fun e => by omega⟩

theorem set_ver {S S' : St} {n : Nat} {o : Option AObj} (h : S.set n o = some S') : S'.ver = S.ver + 1 := by
  unfold St.set at h
  split at h
  · rw [fO_eq fObj fObj_eq, Tr.putK_eq] at h
    simp only [Option.some.injEq] at h
    subst h
    rfl
  · cases h

theorem append_ver {ty : Tr TI} {S S' : St} {t xt : TypeId} {s x v : AV} (h : appendA ty S t xt s x = some (v, S')) : Ver S S' := by
  unfold appendA at h
  repeat' split at h
  all_goals first
    | (cases h; done)
    | (simp only [Option.some.injEq, Prod.mk.injEq] at h; obtain ⟨_, rfl⟩ := h; exact .refl _)
    | (rename_i hs; simp only [Option.some.injEq, Prod.mk.injEq] at h; obtain ⟨_, rfl⟩ := h; exact .up (set_ver hs))
    | (unfold St.pushS at h; simp only [fObj_eq, Tr.putK_eq, fN_eq, Option.some.injEq, Prod.mk.injEq] at h; obtain ⟨_, rfl⟩ := h; exact .up rfl)
    | (rename_i hs; unfold St.pushS at h; simp only [fObj_eq, Tr.putK_eq, fN_eq, Option.some.injEq, Prod.mk.injEq] at h; obtain ⟨_, rfl⟩ := h; exact (Ver.up (set_ver hs)).trans (.up rfl))

theorem eff_ver {ty : Tr TI} {S S' : St} {T : Tr AV} {op : Op} {v : AV} (h : effOp ty S T op = some (v, S')) : Ver S S' := by
  unfold effOp efstore efmapUpdate efconvert efappend efcopy at h
  repeat' split at h
  all_goals first
    | (cases h; done)
    | exact append_ver h
    | (simp only [Option.some.injEq, Prod.mk.injEq] at h; obtain ⟨_, rfl⟩ := h; exact .refl _)
    | (rename_i hs; simp only [Option.some.injEq, Prod.mk.injEq] at h; obtain ⟨_, rfl⟩ := h; exact .up (set_ver hs))
    | (dsimp only at h
       repeat' split at h
       all_goals first
         | (cases h; done)
         | (rename_i hs; simp only [Option.some.injEq, Prod.mk.injEq] at h; obtain ⟨_, rfl⟩ := h; exact .up (set_ver hs)))
    | (unfold St.pushS at h; simp only [fObj_eq, Tr.putK_eq, fN_eq, Option.some.injEq, Prod.mk.injEq] at h; obtain ⟨_, rfl⟩ := h; exact .up rfl)
end Go.Exe
