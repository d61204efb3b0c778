/- The executor: a run that goes through tells what the program does. -/
import Derived.Test.YtlngchhjdnalbaaGreatDoorExeSound
import Derived.Test.YtlngchhjdnalbaaGreatDoorExeHeld
set_option linter.unusedVariables false
set_option linter.unusedSimpArgs false
namespace Go.Exe
open Go.RowKit

def AExit.out : AExit → Exit
  | .normal => .normal
  | .exit id => .exit id
  | .ret => .ret

def CodePost (P : Program) (B nt : Nat) (θ : Th) (S : St) (w : World) (e : AExit) (T' : Tr AV) (S' : St) : Exit → Act → World → Prop :=
  fun x a' w' => x = e.out ∧ ∃ θ', SR θ' B S' w' ∧ TR θ' nt T' a' ∧ Ext θ S w θ' S' w' ∧ DefsOk P a'

structure LT (all : List Oper) (listed : Array Bool) (todo : List (Nat × Oper)) : Prop where
  size : listed.size = all.length
  mem : ∀ j, j < all.length → (listed.getD j true = false ↔ ∃ o, (j, o) ∈ todo)
  get : ∀ j o, (j, o) ∈ todo → all[j]? = some o

/-- What is held may be held. -/
structure HoldOk (all : List Oper) (H : Hold) : Prop where
  tree : ∀ n o, H.tree.get n = some o → (n, o) ∈ H.objs
  sure : ∀ p ∈ H.objs, sureObj p.2 = true
  late : ∀ j oj, all[j]? = some oj → memN j H.late = true → ∀ i, i < all.length → memN i H.late = false → ∃ e ∈ oj.after, Region.binds .any e = true ∧ e.on = i


def Sound (P : Program) (nt : Nat) (k : Task) (S : St) (out : Out) : Prop :=
  match k, out with
  | .code c T, .code e T' S' => ∀ θ B w a, SR θ B S w → TR θ nt T a → DefsOk P a → c.wp P (CodePost P B nt θ S w e T' S') a w
  | .ops all todo T, .code e T' S' => e = .normal ∧ ∀ i θ B w a (Q : Exit → Act → World → Prop), todo = all.drop i → SR θ B S w → TR θ nt T a → DefsOk P a →
      (∀ a' w', CodePost P B nt θ S w .normal T' S' .normal a' w' → Q .normal a' w') → wpOps P all.toArray Q (List.range' i todo.length) a w
  | .op all o nm T, .code e T' S' => e = .normal ∧ ∀ i θ B w a (Q : Exit → Act → World → Prop) (K : Act → World → Prop), all[i]? = some o → (∀ m, nm = some m → θ.blk m = none ∧ 64 ≤ m ∧ m < S.next) → SR θ B S w → TR θ nt T a → DefsOk P a →
      (∀ θ' a' w', SR θ' B S' w' → TR θ' nt T' a' → Ext0 θ S w θ' S' w' → (∀ m, m < S.next → some m ≠ nm → θ'.blk m = θ.blk m) → DefsOk P a' → K a' w') → wpOp P all.toArray Q i K a w
  | .any ops all n base H todo T, .code e T' S' => e = .normal ∧ ∀ θ θ0 B w a listed fuelW (Q : Exit → Act → World → Prop), ops = all.toArray → n = all.length → LT all listed todo → todo.length ≤ fuelW → noSel all = true →
      HoldOk all H → θ0.Le θ → ((∃ i o, (i, o) ∈ todo ∧ memN i H.late = false) → HR θ0 B H.tree.get w) →
      SR θ B S w → TR θ nt T a → DefsOk P a → 64 ≤ base → base + n ≤ S.next → (∀ i o, (i, o) ∈ todo → θ.blk (base + i) = none) →
      (∀ θ' a' w', SR θ' B S' w' → TR θ' nt T' a' → Ext0 θ S w θ' S' w' → (∀ m, m < base → θ'.blk m = θ.blk m) → DefsOk P a' → Q .normal a' w') → (∀ c a w, ¬ Q (.panic c) a w) →
      wpAnyL P .any ops Q (HR θ0 B H.tree.get) (fun j => memN j H.late) fuelW listed a w
  | .call f args, .call v S' => ∀ θ B w args', SR θ B S w → VRs θ args args' → (∀ args w, (callFunc f args).run P w = .ok (.enter f args) w) ∧
      Calls P f args'.toArray w (fun e w' => ∃ v' θ', e = .returned v' ∧ VR θ' v v' ∧ SR θ' B S' w' ∧ Ext θ S w θ' S' w')
  | _, _ => False

/-! ### Which may come now -/
theorem mem_waits {e : Edge} : ∀ {todo : List (Nat × Oper)}, waitsA e todo = true ↔ ∃ o, (e.on, o) ∈ todo
  | [] => by simp [waitsA]
  | (j, o) :: r => by
    simp only [waitsA]
    split
    · rename_i h
      have := eqN _ _ h
      subst this
      simp only [true_iff]
      exact ⟨o, List.mem_cons_self ..⟩
    · rename_i h
      have hne : e.on ≠ j := fun e' => by rw [← e', Nat.beq_refl] at h; cases h
      rw [mem_waits]
      constructor
      · rintro ⟨o', h'⟩; exact ⟨o', List.mem_cons_of_mem _ h'⟩
      · rintro ⟨o', h'⟩
        rcases List.mem_cons.1 h' with h' | h'
        · cases h'; exact (hne rfl).elim
        · exact ⟨o', h'⟩

theorem mem_edges {n : Nat} {todo : List (Nat × Oper)} : ∀ {l : List Edge}, edgesA n todo l = true ↔ ∀ e ∈ l, Region.binds .any e = true → e.on < n ∧ ¬ ∃ o, (e.on, o) ∈ todo
  | [] => by simp [edgesA]
  | e :: es => by
    simp only [edgesA]
    split
    · rename_i hb
      rw [mem_edges]
      constructor
      · intro h e' he' hb'
        rcases List.mem_cons.1 he' with rfl | he'
        · rw [hb] at hb'; cases hb'
        · exact h e' he' hb'
      · intro h e' he' hb'; exact h e' (List.mem_cons_of_mem _ he') hb'
    · rename_i hb
      split
      · rename_i h1 h2
        have h1 := Nat.le_of_ble_eq_true h1
        have h2 : ¬ ∃ o, (e.on, o) ∈ todo := fun h => by rw [mem_waits.2 h] at h2; cases h2
        rw [mem_edges]
        constructor
        · intro h e' he' hb'
          rcases List.mem_cons.1 he' with rfl | he'
          · exact ⟨h1, h2⟩
          · exact h e' he' hb'
        · intro h e' he' hb'; exact h e' (List.mem_cons_of_mem _ he') hb'
      · rename_i h1
        simp only [Bool.false_eq_true, false_iff]
        intro h
        obtain ⟨h2, h3⟩ := h e (List.mem_cons_self ..) hb
        have h4 : waitsA e todo = false := by
          cases hw : waitsA e todo with
          | false => rfl
          | true => exact (h3 (mem_waits.1 hw)).elim
        exact h1 (Nat.ble_eq_true_of_le h2) h4

theorem mem_readyA {n : Nat} {todo : List (Nat × Oper)} {i : Nat} {o : Oper} : ∀ {l : List (Nat × Oper)}, (i, o) ∈ readyA n todo l ↔ (i, o) ∈ l ∧ edgesA n todo o.after.toList = true
  | [] => by simp [readyA]
  | (j, p) :: r => by
    simp only [readyA]
    split
    · rename_i h
      rw [List.mem_cons, List.mem_cons, mem_readyA]
      constructor
      · rintro (e | ⟨h1, h2⟩)
        · cases e; exact ⟨.inl rfl, h⟩
        · exact ⟨.inr h1, h2⟩
      · rintro ⟨e | h1, h2⟩
        · exact .inl e
        · exact .inr ⟨h1, h2⟩
    · rename_i h
      rw [List.mem_cons, mem_readyA]
      constructor
      · rintro ⟨h1, h2⟩; exact ⟨.inr h1, h2⟩
      · rintro ⟨e | h1, h2⟩
        · cases e; rw [h] at h2; cases h2
        · exact ⟨h1, h2⟩

theorem ready_iff {all : List Oper} {listed : Array Bool} {todo : List (Nat × Oper)} (lt : LT all listed todo) (i : Nat) : i ∈ Region.ready .any all.toArray listed ↔ ∃ o, (i, o) ∈ readyA all.length todo todo := by
  have hedge : ∀ o : Oper, (∀ e ∈ o.after, Region.binds .any e = true → listed.getD e.on false = true) ↔ edgesA all.length todo o.after.toList = true := by
    intro o
    rw [mem_edges]
    constructor
    · intro h e he hb
      have h1 := h e (by simpa using he) hb
      have hlt : e.on < listed.size := by
        rcases Nat.lt_or_ge e.on listed.size with h | h
        · exact h
        · simp [Array.getElem?_eq_none h] at h1
      rw [lt.size] at hlt
      refine ⟨hlt, fun hx => ?_⟩
      have := (lt.mem e.on hlt).2 hx
      have hlt' : e.on < listed.size := by rw [lt.size]; exact hlt
      simp [hlt'] at h1 this
      rw [h1] at this; cases this
    · intro h e he hb
      obtain ⟨h1, h2⟩ := h e (by simpa using he) hb
      have hlt' : e.on < listed.size := by rw [lt.size]; exact h1
      cases hv : listed.getD e.on true with
      | false => exact (h2 ((lt.mem e.on h1).1 hv)).elim
      | true => simp [hlt'] at hv ⊢; exact hv
  rw [mem_ready]
  constructor
  · rintro ⟨h1, o, h2, h3⟩
    have hlt : i < all.length := by
      have := (Array.getElem?_eq_some_iff.1 h2).1
      simpa using this
    obtain ⟨o', ho'⟩ := (lt.mem i hlt).1 h1
    have := lt.get i o' ho'
    have h2 : all[i]? = some o := by simpa using h2
    rw [this] at h2
    cases h2
    exact ⟨o, mem_readyA.2 ⟨ho', (hedge o).1 h3⟩⟩
  · rintro ⟨o, h⟩
    obtain ⟨h1, h2⟩ := mem_readyA.1 h
    have h3 := lt.get i o h1
    have hlt : i < all.length := (List.getElem?_eq_some_iff.1 h3).1
    exact ⟨(lt.mem i hlt).2 ⟨o, h1⟩, o, by simpa using h3, (hedge o).2 h2⟩

theorem mem_dropA {i j : Nat} {o : Oper} : ∀ {l : List (Nat × Oper)}, (j, o) ∈ dropA i l ↔ (j, o) ∈ l ∧ j ≠ i
  | [] => by simp [dropA]
  | (k, p) :: r => by
    simp only [dropA]
    split
    · rename_i h
      have := eqN _ _ h
      subst this
      rw [mem_dropA, List.mem_cons]
      constructor
      · rintro ⟨h1, h2⟩; exact ⟨.inr h1, h2⟩
      · rintro ⟨e | h1, h2⟩
        · cases e; exact (h2 rfl).elim
        · exact ⟨h1, h2⟩
    · rename_i h
      have hne : k ≠ i := fun e => by rw [e, Nat.beq_refl] at h; cases h
      rw [List.mem_cons, List.mem_cons, mem_dropA]
      constructor
      · rintro (e | ⟨h1, h2⟩)
        · cases e; exact ⟨.inl rfl, hne⟩
        · exact ⟨.inr h1, h2⟩
      · rintro ⟨e | h1, h2⟩
        · exact .inl e
        · exact .inr ⟨h1, h2⟩

theorem dropA_le {i : Nat} : ∀ (l : List (Nat × Oper)), (dropA i l).length ≤ l.length
  | [] => Nat.le_refl _
  | (k, p) :: r => by
    simp only [dropA]
    split
    · exact Nat.le_succ_of_le (dropA_le r)
    · exact Nat.succ_le_succ (dropA_le r)
theorem dropA_lt {i : Nat} {o : Oper} : ∀ {l : List (Nat × Oper)}, (i, o) ∈ l → (dropA i l).length < l.length
  | (k, p) :: r, h => by
    simp only [dropA]
    split
    · exact Nat.lt_succ_of_le (dropA_le r)
    · rename_i hk
      rcases List.mem_cons.1 h with e | h
      · cases e; rw [Nat.beq_refl] at hk; cases hk
      · exact Nat.succ_lt_succ (dropA_lt h)

theorem LT.drop {all : List Oper} {listed : Array Bool} {todo : List (Nat × Oper)} (lt : LT all listed todo) (i : Nat) : LT all (listed.setIfInBounds i true) (dropA i todo) := by
  refine ⟨by simp [lt.size], fun j hj => ?_, fun j o h => lt.get j o (mem_dropA.1 h).1⟩
  by_cases e : i = j
  · subst e
    have hlt : i < listed.size := by rw [lt.size]; exact hj
    simp [hlt, mem_dropA]
  · rw [getD_set_ne true e, lt.mem j hj]
    constructor
    · rintro ⟨o, h⟩; exact ⟨o, mem_dropA.2 ⟨h, fun h' => e h'.symm⟩⟩
    · rintro ⟨o, h⟩; exact ⟨o, (mem_dropA.1 h).1⟩

theorem mem_numA {i : Nat} {o : Oper} : ∀ {l : List Oper} {k : Nat}, (i, o) ∈ numA l k ↔ k ≤ i ∧ l[i - k]? = some o
  | [], k => by simp [numA]
  | p :: l, k => by
    simp only [numA, List.mem_cons, mem_numA]
    constructor
    · rintro (e | ⟨h1, h2⟩)
      · cases e; simp
      · refine ⟨by omega, ?_⟩
        rw [show i - k = (i - (k + 1)) + 1 by omega, List.getElem?_cons_succ]
        exact h2
    · rintro ⟨h1, h2⟩
      by_cases e : i = k
      · subst e; simp at h2; left; rw [h2]
      · right
        refine ⟨by omega, ?_⟩
        rw [show i - k = (i - (k + 1)) + 1 by omega, List.getElem?_cons_succ] at h2
        exact h2

theorem LT.start (all : List Oper) : LT all (Array.replicate all.toArray.size false) (numA all 0) := by
  refine ⟨by simp, fun j hj => ?_, fun j o h => by simpa using (mem_numA.1 h).2⟩
  simp only [mem_numA, Nat.zero_le, Nat.sub_zero, true_and]
  simp [hj]

theorem numA_length : ∀ (l : List Oper) (k : Nat), (numA l k).length = l.length
  | [], _ => rfl
  | _ :: l, k => by simp [numA, numA_length l]

theorem noSel_spec : ∀ {l : List Oper}, noSel l = true → ∀ o ∈ l, ∀ cs b, o.op ≠ .select cs b
  | [], _, _, h, _, _ => by cases h
  | o :: os, h, o', hm, cs, b => by
    unfold noSel at h
    split at h
    · cases h
    · rename_i hns
      rcases List.mem_cons.1 hm with rfl | hm
      · exact fun e => hns _ _ e
      · exact noSel_spec h o' hm cs b

theorem onA_spec {i : Nat} : ∀ {l : List Edge}, onA i l = true → ∃ e ∈ l, Region.binds .any e = true ∧ e.on = i
  | [], h => by simp [onA] at h
  | e :: es, h => by
    simp only [onA] at h
    split at h
    · rename_i h1
      simp only [Bool.and_eq_true] at h1
      exact ⟨e, List.mem_cons_self .., h1.1, eqN _ _ h1.2⟩
    · obtain ⟨e', h1, h2⟩ := onA_spec h
      exact ⟨e', List.mem_cons_of_mem _ h1, h2⟩

theorem freeA_spec {ops : Array Oper} {i : Nat} {o : Oper} : ∀ {l : List (Nat × Oper)}, freeA ops i o l = true → ∀ j p, (j, p) ∈ l → j ≠ i → (∀ e ∈ p.after, Region.binds .any e = true → e.on ≠ i) → o.apart ops p = true
  | [], _, j, p, h, _, _ => by cases h
  | (k, q) :: r, h, j, p, hm, hne, hno => by
    simp only [freeA] at h
    split at h
    · rename_i h1
      rcases List.mem_cons.1 hm with e | hm
      · cases e
        simp only [Bool.or_eq_true] at h1
        rcases h1 with (h1 | h1) | h1
        · exact (hne (eqN _ _ h1)).elim
        · obtain ⟨e, he, hb, hon⟩ := onA_spec h1
          exact (hno e (by simpa using he) hb hon).elim
        · exact h1
      · exact freeA_spec h j p hm hne hno
    · cases h

theorem calmA_spec {ty : Tr TI} {H : Hold} {ops : Array Oper} {all : List Oper} {T : Tr AV} {todo : List (Nat × Oper)} {i : Nat} {o : Oper} {v : AV} : ∀ {l : List (Nat × Oper)}, calmA ty H ops all T todo l = some (i, o, v) → (i, o) ∈ l ∧ calmV ty H all T i o = some v ∧ freeA ops i o todo = true
  | [], h => by simp [calmA] at h
  | (j, p) :: r, h => by
    simp only [calmA] at h
    split at h
    · rename_i u hu
      split at h
      · rename_i hf
        simp only [Option.some.injEq, Prod.mk.injEq] at h
        obtain ⟨rfl, rfl, rfl⟩ := h
        exact ⟨List.mem_cons_self .., hu, hf⟩
      · obtain ⟨h1, h2⟩ := calmA_spec h; exact ⟨List.mem_cons_of_mem _ h1, h2⟩
    · obtain ⟨h1, h2⟩ := calmA_spec h; exact ⟨List.mem_cons_of_mem _ h1, h2⟩

theorem calmH_sound {P : Program} {ty : Tr TI} (hty : TyOk P ty) {θ : Th} {nt B : Nat} {T : Tr AV} {a : Act} (tr : TR θ nt T a) (hg : ∀ g, g < 64 → θ.blk g = some g) {h : Tr AObj} {all : List Oper} {o : Oper} {v : AV} (hc : calmH ty h all T o = some v)
    {S' : World → Prop} (hS : ∀ w, S' w → HR θ B h.get w) {w0 : World} (h0 : S' w0) : ∃ v', VR θ v v' ∧ YieldsIf P all.toArray S' o v' a := by
  unfold calmH at hc
  split at hc
  · rename_i hw
    simp only [Option.some.injEq] at hc
    subst hc
    rw [wanted_sound tr all o] at hw
    exact ⟨undef, VR.undef, .inr ⟨hw, rfl⟩⟩
  · rename_i hw
    rw [wanted_sound tr all o] at hw
    split at hc
    · rename_i u hu
      split at hc
      · rename_i hs
        simp only [Option.some.injEq] at hc
        subst hc
        have key : ∀ w, S' w → ∃ v', (execOp a.eval o).run P w = .ok (.value v') w ∧ VR θ u v' := fun w hw =>
          pure_sound (B := B) (h := h) ⟨hty, hS w hw, tr, hg⟩ o hu
        obtain ⟨v', h1, h2⟩ := key w0 h0
        refine ⟨v', h2, .inl ⟨hw, fun w hSw => ?_⟩⟩
        obtain ⟨v2, h3, h4⟩ := key w hSw
        rw [h3, VR.fun 5 u v2 v' h4 h2 hs]
      · cases hc
    · cases hc

theorem HR.le {θ θ' : Th} {B : Nat} {h : Nat → Option AObj} {w : World} (hle : θ.Le θ') (k : HR θ B h w) : HR θ' B h w := by
  have hb : ∀ n b, h n ≠ none → θ'.blk n = some b → θ.blk n = some b := fun n b hn hb => by
    cases ho : h n with
    | none => exact (hn ho).elim
    | some o =>
      obtain ⟨b1, _, h1, _⟩ := k.obj n o ho
      have := hle.blk _ _ h1
      rw [hb] at this
      rw [h1, this]
  refine ⟨fun n o hn => ?_, fun n m b h1 h2 h3 h4 h5 => k.inj n m b h1 h2 h3 (hb n b h2 h4) (hb m b h3 h5)⟩
  obtain ⟨b, ob, h1, h2, h3, h4⟩ := k.obj n o hn
  exact ⟨b, ob, hle.blk _ _ h1, h2, h3.mono hle, h4⟩

theorem HR.sub {θ : Th} {B : Nat} {h h' : Nat → Option AObj} {w : World} (hs : ∀ n o, h' n = some o → h n = some o) (k : HR θ B h w) : HR θ B h' w := by
  have hn : ∀ n, h' n ≠ none → h n ≠ none := fun n hn => by
    cases ho : h' n with
    | none => exact (hn ho).elim
    | some o => rw [hs n o ho]; exact fun e => by cases e
  exact ⟨fun n o ho => k.obj n o (hs n o ho), fun n m b h1 h2 h3 => k.inj n m b h1 (hn n h2) (hn m h3)⟩

theorem calm_sound {P : Program} {ty : Tr TI} (hty : TyOk P ty) {θ θ0 : Th} {nt B : Nat} {T : Tr AV} {a : Act} (tr : TR θ nt T a) (hg : ∀ g, g < 64 → θ.blk g = some g) (hle : θ0.Le θ) {H : Hold} {all : List Oper} {i : Nat} {o : Oper} {v : AV} (h : calmV ty H all T i o = some v)
    {w0 : World} (h0 : memN i H.late = false → HR θ0 B H.tree.get w0) :
    ∃ v' S', VR θ v v' ∧ YieldsIf P all.toArray S' o v' a ∧ S' w0 ∧ ((∀ w, S' w) ∨ (memN i H.late = false ∧ ∀ w, HR θ0 B H.tree.get w → S' w)) := by
  unfold calmV at h
  split at h
  · rename_i u hu
    simp only [Option.some.injEq] at h
    subst h
    obtain ⟨v', h1, h2⟩ := calmH_sound (P := P) (B := 0) (S' := fun _ => True) hty tr hg hu (fun w _ => ⟨fun n ob h => (by cases h), fun n m b _ h => (h rfl).elim⟩) (w0 := w0) trivial
    exact ⟨v', _, h1, h2, trivial, .inl fun _ => trivial⟩
  · split at h
    · cases h
    · rename_i l x r ht
      split at h
      · cases h
      · rename_i hm
        rw [← ht] at h
        obtain ⟨v', h1, h2⟩ := calmH_sound (P := P) (B := B) (S' := HR θ0 B H.tree.get) hty tr hg h (fun w k => k.le hle) (h0 hm)
        exact ⟨v', _, h1, h2, h0 hm, .inr ⟨hm, fun _ k => k⟩⟩

theorem VRs.funL {θ : Th} : ∀ {l : List AV} {a b : List Value}, VRs θ l a → VRs θ l b → l.all (AV.sure 5) = true → a = b
  | _, _, _, .nil, h2, _ => by cases h2; rfl
  | _, _, _, .cons v v' vs vs' h1 h2, h3, hs => by
    cases h3 with
    | cons _ u' _ us' h4 h5 =>
      simp only [List.all_cons, Bool.and_eq_true] at hs
      rw [VR.fun 5 v v' u' h1 h4 hs.1, VRs.funL h2 h5 hs.2]

theorem keptA_spec {h : Tr AObj} : ∀ {l : List (Nat × AObj)}, keptA h l = true → ∀ n o, (n, o) ∈ l → h.get n = some o
  | [], _, _, _, hm => by cases hm
  | (k, p) :: r, hk, n, o, hm => by
    simp only [keptA] at hk
    split at hk
    · rename_i o' ho
      split at hk
      · rename_i he
        rcases List.mem_cons.1 hm with e | hm
        · cases e; rw [ho, eqObj_eq _ _ he]
        · exact keptA_spec hk n o hm
      · cases hk
    · cases hk

/-- What is held stands behind an operation too, where the objects are as they were. -/
theorem hold_again {all : List Oper} {H : Hold} (ok : HoldOk all H) {θ θ' : Th} (hle : θ.Le θ') {B : Nat} {w w' : World} {S' : St} (h0 : HR θ B H.tree.get w) (k : SR θ' B S' w') (hk : keptA S'.heap H.objs = true) : HR θ B H.tree.get w' := by
  refine ⟨fun n o hn => ?_, h0.inj⟩
  have hm := ok.tree n o hn
  obtain ⟨b, ob, hb, _, h3, _⟩ := h0.obj n o hn
  obtain ⟨b', ob', hb', h2', h3', h4'⟩ := k.hr.obj n o (keptA_spec hk n o hm)
  rw [hle.blk _ _ hb] at hb'
  cases hb'
  refine ⟨b, ob', hb, h2', ?_, h4'⟩
  have hs := ok.sure _ hm
  cases o with
  | map es c => simp [sureObj] at hs
  | cells cs e m =>
    simp only [sureObj] at hs
    cases ob <;> simp only [OR] at h3
    cases ob' <;> simp only [OR] at h3'
    obtain ⟨rfl, pre, rest, h5, h6, h7⟩ := h3
    obtain ⟨rfl, pre', rest', h5', h6', h7'⟩ := h3'
    have := (h6.mono hle).funL h6' hs
    subst this
    refine ⟨rfl, pre, rest', h5', h6, fun s z hm => ?_⟩
    obtain ⟨x, h8, _⟩ := h7 s z hm
    obtain ⟨x', h9, h10⟩ := h7' s z hm
    rw [hle.ext _ _ h8] at h9
    cases h9
    exact ⟨x, h8, h10⟩

theorem treeOf_get : ∀ {l : List (Nat × AObj)} {n : Nat} {o : AObj}, (treeOf l).get n = some o → (n, o) ∈ l
  | [], n, o, h => by simp [treeOf, Tr.get_nil] at h
  | (k, p) :: r, n, o, h => by
    simp only [treeOf] at h
    rw [Tr.get_put _ _ _ _ _ (Nat.lt_succ_self k)] at h
    split at h
    · rename_i e; subst e; cases h; exact List.mem_cons_self ..
    · exact List.mem_cons_of_mem _ (treeOf_get h)

theorem sureAll_spec : ∀ {l : List (Nat × AObj)}, sureAll l = true → ∀ p ∈ l, sureObj p.2 = true
  | [], _, _, hm => by cases hm
  | (k, q) :: r, h, p, hm => by
    simp only [sureAll] at h
    split at h
    · rename_i hs
      rcases List.mem_cons.1 hm with rfl | hm
      · exact hs
      · exact sureAll_spec h p hm
    · cases h

theorem numA_mem : ∀ (l : List Oper) (k j : Nat) (o : Oper), l[j]? = some o → (k + j, o) ∈ numA l k
  | [], _, _, _, h => by simp at h
  | x :: xs, k, 0, o, h => by simp at h; subst h; exact List.mem_cons_self ..
  | x :: xs, k, j + 1, o, h => by
    have := numA_mem xs (Nat.succ k) j o (by simpa using h)
    have e : Nat.succ k + j = k + (j + 1) := by omega
    rw [e] at this
    exact List.mem_cons_of_mem _ this

theorem waitsAll_spec {late : List Nat} {es : List Edge} : ∀ {l : List (Nat × Oper)}, waitsAll late es l = true → ∀ i o, (i, o) ∈ l → memN i late = false → onA i es = true
  | [], _, _, _, hm, _ => by cases hm
  | (k, q) :: r, h, i, o, hm, hl => by
    simp only [waitsAll] at h
    split at h
    · rename_i h1
      rcases List.mem_cons.1 hm with e | hm
      · cases e
        rw [hl] at h1
        simpa using h1
      · exact waitsAll_spec h i o hm hl
    · cases h

theorem lateOk_spec {late : List Nat} {num : List (Nat × Oper)} : ∀ {l : List (Nat × Oper)}, lateOk late num l = true → ∀ j o, (j, o) ∈ l → memN j late = true → waitsAll late o.after.toList num = true
  | [], _, _, _, hm, _ => by cases hm
  | (k, q) :: r, h, j, o, hm, hl => by
    simp only [lateOk] at h
    split at h
    · rename_i h1
      rcases List.mem_cons.1 hm with e | hm
      · cases e
        rw [hl] at h1
        simpa using h1
      · exact lateOk_spec h j o hm hl
    · cases h

theorem holdA_ok {wide : Bool} {T : Tr AV} {h : Tr AObj} {all : List Oper} {H : Hold} (hh : holdA wide T h all = some H) : HoldOk all H ∧ keptA h H.objs = true := by
  unfold holdA at hh
  split at hh
  · split at hh
    rename_i objs late _ _
    split at hh
    · rename_i h1 h2 h3
      simp only [Option.some.injEq] at hh
      subst hh
      refine ⟨⟨fun n o hn => treeOf_get hn, sureAll_spec h1, fun j oj hj hl i hi hli => ?_⟩, h2⟩
      have hw := lateOk_spec h3 j oj (by have := numA_mem all 0 j oj hj; simpa using this) hl
      obtain ⟨o, ho⟩ : ∃ o, all[i]? = some o := ⟨_, List.getElem?_eq_getElem hi⟩
      obtain ⟨e, he, hb, hon⟩ := onA_spec (waitsAll_spec hw i o (by have := numA_mem all 0 i o ho; simpa using this) hli)
      exact ⟨e, by simpa using he, hb, hon⟩
    · cases hh
  · cases hh

theorem holdNone_ok (all : List Oper) : HoldOk all Hold.none := ⟨fun n o h => (by cases h), fun p hp => (by cases hp), fun j oj _ h => (by cases h)⟩
end Go.Exe
