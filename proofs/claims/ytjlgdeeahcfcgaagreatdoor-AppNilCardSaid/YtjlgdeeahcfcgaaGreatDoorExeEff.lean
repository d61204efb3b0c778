/- The executor: the state, as it is written. The executor: the operations that change what is there. The executor: append and copy. The executor: copy, and all operations that write. -/
import Derived.Test.YtjlgdeeahcfcgaaGreatDoorExeOps4
import Derived.Laws.Append
import Derived.Laws.AppendOwn
set_option linter.unusedVariables false
set_option linter.unusedSimpArgs false
namespace Go.Exe
set_option linter.unusedSectionVars false
variable [Opn]
open Go.RowKit

/-- Cells written one behind the other. -/
theorem storeCells_run {P : Program} {b : Nat} : ∀ (l : List Value) (i o : Nat) (w : World) (c : Array Value) (e : TypeId) (fr : Nat × Nat), w.heap[b]? = some (.cells c e fr) → (fr.1 = fr.2 ∨ c.size ≤ fr.1) →
    (∀ x ∈ l, Value.oneCell' x = true) → o + i + l.length ≤ c.size →
    ∃ w' c', (storeCells ⟨b, o, none⟩ l i).run P w = .ok () w' ∧ w'.os = w.os ∧ w'.tape = w.tape ∧ w'.output = w.output ∧ w'.heap.size = w.heap.size ∧ (∀ k, k ≠ b → w'.heap[k]? = w.heap[k]?) ∧
      w'.heap[b]? = some (.cells c' e fr) ∧ c'.toList = Exe.put c.toList (o + i) l ∧ c'.size = c.size := by
  intro l
  induction l with
  | nil => intro i o w c e fr hb _ _ _; exact ⟨w, c, rfl, rfl, rfl, rfl, rfl, fun _ _ => rfl, hb, by simp [Exe.put], rfl⟩
  | cons v l ih =>
    intro i o w c e fr hb hf h1 hl
    simp only [List.length_cons] at hl
    have hcell : w.cell? ⟨b, o + i, none⟩ = c[o + i]? := cell_of_row w b (o + i) c e fr hb
    have hlt : o + i < c.size := by omega
    rw [Array.getElem?_eq_getElem hlt] at hcell
    have hfz : w.frozen? ⟨b, o + i, none⟩ = false := by
      unfold World.frozen?
      rw [hb]
      obtain ⟨lo, hi⟩ := fr
      simp only at hf ⊢
      rcases hf with rfl | hf
      · first | (simp; done) | (simp; omega)
      · first | (simp; done) | (simp; omega)
    have hst : (store ⟨b, o + i, none⟩ v).run P w = .ok () (w.setCell ⟨b, o + i, none⟩ v) := by
      rw [run_store P w _ v .plain (h1 v (List.mem_cons_self ..)), hcell]
      simp [hfz]
    have hb1 : (w.setCell ⟨b, o + i, none⟩ v).heap[b]? = some (.cells (c.setIfInBounds (o + i) v) e fr) := by
      simp [World.setCell, Array.getElem?_modify, hb]
    obtain ⟨w', c', r1, r2, r3, r4, r5, r6, r7, r8, r9⟩ := ih (i + 1) o (w.setCell ⟨b, o + i, none⟩ v) (c.setIfInBounds (o + i) v) e fr hb1 (by simpa using hf) (fun x hx => h1 x (List.mem_cons_of_mem _ hx)) (by simp; omega)
    refine ⟨w', c', ?_, r2, r3, r4, by rw [r5]; simp [World.setCell], fun k hk => ?_, r7, ?_, by rw [r9]; simp⟩
    · simp only [storeCells, Sem.run_bind, addr_add, hst, Result.andThen_ok]
      exact r1
    · rw [r6 k hk, heap_setCell_other _ _ _ _ hk]
    · rw [r8]
      simp only [Array.toList_setIfInBounds, Exe.put, List.length_cons]
      apply List.ext_getElem?
      intro j
      have hl' : c.toList.length = c.size := by simp
      simp only [List.getElem?_append, List.getElem?_take, List.getElem?_drop, List.length_append, List.length_take, List.length_set, List.length_cons, hl', List.getElem?_set, List.getElem?_cons]
      have e1 : min (o + (i + 1)) c.size = o + (i + 1) := by omega
      have e2 : min (o + i) c.size = o + i := by omega
      simp only [e1, e2]
      by_cases h1 : j < o + i
      · have : ¬ (o + i = j) := by omega
        simp [h1, this, show j < o + (i + 1) + l.length by omega, show j < o + i + (l.length + 1) by omega, show j < o + (i + 1) by omega]
      · by_cases h2 : j = o + i
        · subst h2
          simp [show o + i < o + (i + 1) + l.length by omega, show o + i < o + (i + 1) by omega, hlt]
        · by_cases h3 : j < o + (i + 1) + l.length
          · have h4 : ¬ (j < o + (i + 1)) := by omega
            have h5 : ¬ (j - (o + i) = 0) := by omega
            simp [h1, h3, h4, h5, show j < o + i + (l.length + 1) by omega, show j - (o + (i + 1)) = j - (o + i) - 1 by omega]
          · simp [h3, show ¬ (j < o + i + (l.length + 1)) by omega, show ¬ (o + i = j) by omega]
            have e : o + (i + 1) + l.length + (j - (o + (i + 1) + l.length)) = o + i + (l.length + 1) + (j - (o + i + (l.length + 1))) := by omega
            rw [e]
            simp [show ¬ (o + i = o + i + (l.length + 1) + (j - (o + i + (l.length + 1)))) by omega]

theorem SR.congr {θ : Th} {B : Nat} {S : St} {w w' : World} (k : SR θ B S w) (h : w'.heap = w.heap) : SR θ B S w' :=
  ⟨⟨fun n o hn => by rw [h]; exact k.hr.obj n o hn, k.hr.inj⟩, k.next, k.syms, k.base, k.glob, by rw [h]; exact k.size⟩

theorem SR.blk {θ : Th} {B : Nat} {S : St} {w : World} (k : SR θ B S w) {n : Nat} {o : AObj} (hn : S.heap.get n = some o) : n < S.next ∧ ∃ b, θ.blk n = some b ∧ b < w.heap.size := by
  obtain ⟨b, ob, h1, h2, _⟩ := k.hr.obj n o hn
  refine ⟨?_, b, h1, ?_⟩
  · rcases Nat.lt_or_ge n S.next with h | h
    · exact h
    · rw [k.next n h] at h1; cases h1
  · rcases Nat.lt_or_ge b w.heap.size with h | h
    · exact h
    · rw [Array.getElem?_eq_none h] at h2; cases h2

theorem set_eq {S S' : St} {n : Nat} {o : Option AObj} (h : S.set n o = some S') : 64 ≤ n ∧ S'.next = S.next ∧ S'.syms = S.syms ∧ ∀ m, S'.heap.get m = if m = n then o else S.heap.get m := by
  unfold St.set at h
  split at h
  · rename_i hle
    rw [fO_eq fObj fObj_eq, Tr.putK_eq] at h
    simp only [Option.some.injEq] at h
    subst h
    exact ⟨Nat.le_of_ble_eq_true hle, rfl, rfl, fun m => Tr.get_put _ _ _ _ _ (Nat.lt_succ_self n)⟩
  · cases h

/-- An object is written anew. -/
theorem SR.setO {θ : Th} {B : Nat} {S S' : St} {w w' : World} {n b : Nat} {o o' : AObj} {ob' : Obj} (k : SR θ B S w) (hs : S.set n (some o') = some S') (hn : S.heap.get n = some o) (hb : θ.blk n = some b)
    (hos : w'.os = w.os) (htape : w'.tape = w.tape) (hout : w'.output = w.output) (hsize : w'.heap.size = w.heap.size) (hother : ∀ k, k ≠ b → w'.heap[k]? = w.heap[k]?) (hnew : w'.heap[b]? = some ob') (hor : OR θ o' ob') (hl : LooseO o' ob') :
    SR θ B S' w' ∧ Ext θ S w θ S' w' := by
  obtain ⟨h64, e1, e2, hg⟩ := set_eq hs
  have hlive : ∀ m, (S'.heap.get m ≠ none) ↔ (S.heap.get m ≠ none) := fun m => by
    rw [hg m]
    by_cases e : m = n
    · subst e; simp [hn]
    · rw [if_neg e]
  have hB : B ≤ b := by
    obtain ⟨b', ob, h1, _, _, h4⟩ := k.hr.obj n o hn
    rw [hb] at h1; cases h1
    exact (h4 h64).1
  refine ⟨⟨⟨fun m om hm => ?_, fun p q x h1 h2 h3 h4 h5 => ?_⟩, by rw [e1]; exact k.next, by rw [e2]; exact k.syms, by rw [e1]; exact k.base, k.glob, by rw [hsize]; exact k.size⟩,
    ⟨.refl _, hos, htape, hout, by omega, fun x hx hno => hother x fun e => ?_, fun m x h1 h2 h3 h4 => ⟨m, h1, (hlive m).1 h2, h3⟩, by omega, fun _ _ => rfl⟩⟩
  · rw [hg m] at hm
    by_cases e : m = n
    · subst e
      rw [if_pos rfl] at hm
      cases hm
      exact ⟨b, ob', hb, hnew, hor, fun _ => ⟨hB, hl⟩⟩
    · rw [if_neg e] at hm
      obtain ⟨b', ob, h1, h2, h3, h4⟩ := k.hr.obj m om hm
      refine ⟨b', ob, h1, ?_, h3, h4⟩
      rw [hother b' ?_]
      · exact h2
      · intro eb
        subst eb
        exact e (k.hr.inj n m b' h64 (by simp [hn]) (by simp [hm]) hb h1).symm
  · exact k.hr.inj p q x h1 ((hlive p).1 h2) ((hlive q).1 h3) h4 h5
  · exact hno n h64 (by simp [hn]) (e ▸ hb)

/-- An object is written anew that shares nothing with a string. -/
theorem SR.set {θ : Th} {B : Nat} {S S' : St} {w w' : World} {n b : Nat} {o o' : AObj} {ob' : Obj} (k : SR θ B S w) (hs : S.set n (some o') = some S') (hn : S.heap.get n = some o) (hb : θ.blk n = some b)
    (hos : w'.os = w.os) (htape : w'.tape = w.tape) (hout : w'.output = w.output) (hsize : w'.heap.size = w.heap.size) (hother : ∀ k, k ≠ b → w'.heap[k]? = w.heap[k]?) (hnew : w'.heap[b]? = some ob') (hor : OR θ o' ob') (hl : Loose ob') :
    SR θ B S' w' ∧ Ext θ S w θ S' w' := k.setO hs hn hb hos htape hout hsize hother hnew hor (hl.o _)

/-- An object less. -/
theorem SR.kill {θ : Th} {B : Nat} {S S' : St} {w : World} {n : Nat} (k : SR θ B S w) (hs : S.set n none = some S') : SR θ B S' w ∧ Ext θ S w θ S' w := by
  obtain ⟨h64, e1, e2, hg⟩ := set_eq hs
  have hlive : ∀ m, (S'.heap.get m ≠ none) → (S.heap.get m ≠ none) := fun m h => by
    rw [hg m] at h
    by_cases e : m = n
    · subst e; simp at h
    · rwa [if_neg e] at h
  refine ⟨⟨⟨fun m om hm => ?_, fun p q x h1 h2 h3 h4 h5 => k.hr.inj p q x h1 (hlive p h2) (hlive q h3) h4 h5⟩, by rw [e1]; exact k.next, by rw [e2]; exact k.syms, by rw [e1]; exact k.base, k.glob, k.size⟩,
    ⟨.refl _, rfl, rfl, rfl, Nat.le_refl _, fun _ _ _ => rfl, fun m x h1 h2 h3 h4 => ⟨m, h1, hlive m h2, h3⟩, by omega, fun _ _ => rfl⟩⟩
  rw [hg m] at hm
  by_cases e : m = n
  · subst e; simp at hm
  · rw [if_neg e] at hm
    exact k.hr.obj m om hm

/-- With a new name. -/
def Th.plus (θ : Th) (n b s : Nat) (y : Option Nat) : Th := ⟨fun m => if m = n then some b else θ.blk m, fun m => if m = s then y else θ.ext m⟩

theorem Th.plus_le {θ : Th} {n b s : Nat} {y : Option Nat} (h1 : θ.blk n = none) (h2 : θ.ext s = none) : θ.Le (θ.plus n b s y) :=
  ⟨fun m x h => by
    have : m ≠ n := fun e => by subst e; rw [h1] at h; cases h
    simp [Th.plus, this, h], fun m x h => by
    have : m ≠ s := fun e => by subst e; rw [h2] at h; cases h
    simp [Th.plus, this, h]⟩

/-- A new object. -/
theorem SR.plus {θ : Th} {B : Nat} {S : St} {w w' : World} {o : AObj} {ob : Obj} {y : Option Nat} {sy : Nat} (r : Nat) (k : SR θ B S w) (hsy : S.syms ≤ sy) (hy : ∀ s, sy ≤ s → s = S.syms → y = none)
    (hos : w'.os = w.os) (htape : w'.tape = w.tape) (hout : w'.output = w.output) (hheap : w'.heap = w.heap.push ob) (hor : OR (θ.plus S.next w.heap.size S.syms y) o ob) (hl : Loose ob) :
    let S' : St := ⟨Tr.put (Nat.succ S.next) S.heap S.next (some o), Nat.succ S.next, sy, r⟩
    SR (θ.plus S.next w.heap.size S.syms y) B S' w' ∧ Ext θ S w (θ.plus S.next w.heap.size S.syms y) S' w' := by
  intro S'
  have hle : θ.Le (θ.plus S.next w.heap.size S.syms y) := Th.plus_le (k.next _ (Nat.le_refl _)) (k.syms _ (Nat.le_refl _))
  have hg : ∀ m, S'.heap.get m = if m = S.next then some o else S.heap.get m := fun m => Tr.get_put _ _ _ _ _ (Nat.lt_succ_self _)
  have hold : ∀ x, x < w.heap.size → w'.heap[x]? = w.heap[x]? := fun x hx => by rw [hheap, Array.getElem?_push, if_neg (by omega)]
  have hlast : w'.heap[w.heap.size]? = some ob := by rw [hheap]; simp
  have hplus : ∀ m, (θ.plus S.next w.heap.size S.syms y).blk m = if m = S.next then some w.heap.size else θ.blk m := fun _ => rfl
  refine ⟨⟨⟨fun m om hm => ?_, fun p q x h1 h2 h3 h4 h5 => ?_⟩, fun m hm => ?_, fun s hs => ?_, Nat.le_succ_of_le k.base, fun g hgl => ?_, ?_⟩, ⟨hle, hos, htape, hout, by rw [hheap]; simp, fun x hx _ => hold x hx, fun m x h1 h2 h3 h4 => ?_, Nat.le_succ _, fun m hm => by rw [hplus, if_neg (by omega)]⟩⟩
  · rw [hg m] at hm
    by_cases e : m = S.next
    · subst e
      rw [if_pos rfl] at hm
      cases hm
      exact ⟨w.heap.size, ob, by simp [hplus], hlast, hor, fun _ => ⟨k.size, hl.o _⟩⟩
    · rw [if_neg e] at hm
      obtain ⟨b, ob', h1, h2, h3, h4⟩ := k.hr.obj m om hm
      obtain ⟨_, b', h5, h6⟩ := k.blk hm
      rw [h1] at h5; cases h5
      exact ⟨b, ob', hle.blk _ _ h1, by rw [hold b h6]; exact h2, h3.mono hle, h4⟩
  · rw [hg p] at h2
    rw [hg q] at h3
    rw [hplus] at h4 h5
    have hbig : ∀ m, S.heap.get m ≠ none → θ.blk m ≠ some w.heap.size := fun m hm e => by
      cases ho : S.heap.get m with
      | none => exact hm ho
      | some om =>
        obtain ⟨_, b', h5, h6⟩ := k.blk ho
        rw [e] at h5; cases h5; omega
    by_cases ep : p = S.next <;> by_cases eq : q = S.next
    · rw [ep, eq]
    · rw [if_pos ep] at h4; rw [if_neg eq] at h5 h3
      cases h4
      exact (hbig q h3 h5).elim
    · rw [if_neg ep] at h4 h2; rw [if_pos eq] at h5
      cases h5
      exact (hbig p h2 h4).elim
    · rw [if_neg ep] at h4 h2; rw [if_neg eq] at h5 h3
      exact k.hr.inj p q x h1 h2 h3 h4 h5
  · have hm : S.next + 1 ≤ m := hm
    rw [hplus, if_neg (by omega)]
    exact k.next m (by omega)
  · show (if s = S.syms then y else θ.ext s) = none
    by_cases e : s = S.syms
    · rw [if_pos e]; exact hy s hs e
    · rw [if_neg e]; exact k.syms s (Nat.le_trans hsy hs)
  · exact hle.blk _ _ (k.glob g hgl)
  · rw [hheap]; have := k.size; simp; omega
  · rw [hg m] at h2
    rw [hplus] at h3
    by_cases e : m = S.next
    · rw [if_pos e] at h3; cases h3; omega
    · rw [if_neg e] at h3 h2; exact ⟨m, h1, h2, h3⟩

/-- A new name for an old block, the old name struck out. -/
theorem SR.renew {θ : Th} {B : Nat} {S S1 : St} {w w' : World} {n b : Nat} {o o' : AObj} {ob' : Obj} {y : Option Nat} {sy : Nat} (r : Nat) (k : SR θ B S w) (hs : S.set n none = some S1) (hn : S.heap.get n = some o) (hb : θ.blk n = some b)
    (hsy : S.syms ≤ sy) (hy : ∀ s, sy ≤ s → s = S.syms → y = none)
    (hos : w'.os = w.os) (htape : w'.tape = w.tape) (hout : w'.output = w.output) (hsize : w'.heap.size = w.heap.size) (hother : ∀ k, k ≠ b → w'.heap[k]? = w.heap[k]?) (hnew : w'.heap[b]? = some ob') (hor : OR (θ.plus S.next b S.syms y) o' ob') (hl : Loose ob') :
    let S' : St := ⟨Tr.put (Nat.succ S1.next) S1.heap S1.next (some o'), Nat.succ S1.next, sy, r⟩
    SR (θ.plus S.next b S.syms y) B S' w' ∧ Ext θ S w (θ.plus S.next b S.syms y) S' w' := by
  intro S'
  obtain ⟨h64, e1, e2, hg1⟩ := set_eq hs
  have hle : θ.Le (θ.plus S.next b S.syms y) := Th.plus_le (k.next _ (Nat.le_refl _)) (k.syms _ (Nat.le_refl _))
  have hnn : n ≠ S.next := fun e => by have := (k.blk hn).1; omega
  have hg : ∀ m, S'.heap.get m = if m = S.next then some o' else if m = n then none else S.heap.get m := fun m => by
    show (Tr.put (Nat.succ S1.next) S1.heap S1.next (some o')).get m = _
    rw [Tr.get_put _ _ _ _ _ (Nat.lt_succ_self _), e1, hg1 m]
  have hplus : ∀ m, (θ.plus S.next b S.syms y).blk m = if m = S.next then some b else θ.blk m := fun _ => rfl
  have hB : B ≤ b := by
    obtain ⟨b', ob, h1, _, _, h4⟩ := k.hr.obj n o hn
    rw [hb] at h1; cases h1
    exact (h4 h64).1
  have hapart : ∀ m, m ≠ n → S.heap.get m ≠ none → θ.blk m ≠ some b := fun m hm hl e => hm (k.hr.inj n m b h64 (by simp [hn]) hl hb e).symm
  refine ⟨⟨⟨fun m om hm => ?_, fun p q x h1 h2 h3 h4 h5 => ?_⟩, fun m hm => ?_, fun s hs => ?_, ?_, fun g hgl => hle.blk _ _ (k.glob g hgl), by rw [hsize]; exact k.size⟩, ⟨hle, hos, htape, hout, by omega, fun x hx hno => hother x fun e => hno n h64 (by simp [hn]) (e ▸ hb), fun m x h1 h2 h3 h4 => ?_, by show S.next ≤ S1.next + 1; omega, fun m hm => by rw [hplus, if_neg (by omega)]⟩⟩
  · rw [hg m] at hm
    by_cases e : m = S.next
    · subst e
      rw [if_pos rfl] at hm
      cases hm
      exact ⟨b, ob', by simp [hplus], hnew, hor, fun _ => ⟨hB, hl.o _⟩⟩
    · rw [if_neg e] at hm
      by_cases en : m = n
      · rw [if_pos en] at hm; cases hm
      · rw [if_neg en] at hm
        obtain ⟨b', ob, h1, h2, h3, h4⟩ := k.hr.obj m om hm
        refine ⟨b', ob, hle.blk _ _ h1, ?_, h3.mono hle, h4⟩
        rw [hother b' fun eb => hapart m en (by simp [hm]) (eb ▸ h1)]
        exact h2
  · rw [hg p] at h2
    rw [hg q] at h3
    rw [hplus] at h4 h5
    by_cases ep : p = S.next <;> by_cases eq : q = S.next
    · rw [ep, eq]
    · rw [if_pos ep] at h4; rw [if_neg eq] at h5 h3
      cases h4
      by_cases en : q = n
      · rw [if_pos en] at h3; exact (h3 rfl).elim
      · rw [if_neg en] at h3; exact (hapart q en h3 h5).elim
    · rw [if_neg ep] at h4 h2; rw [if_pos eq] at h5
      cases h5
      by_cases en : p = n
      · rw [if_pos en] at h2; exact (h2 rfl).elim
      · rw [if_neg en] at h2; exact (hapart p en h2 h4).elim
    · rw [if_neg ep] at h4 h2; rw [if_neg eq] at h5 h3
      by_cases en : p = n
      · rw [if_pos en] at h2; exact (h2 rfl).elim
      · by_cases eqn : q = n
        · rw [if_pos eqn] at h3; exact (h3 rfl).elim
        · rw [if_neg en] at h2; rw [if_neg eqn] at h3
          exact k.hr.inj p q x h1 h2 h3 h4 h5
  · have hm : S1.next + 1 ≤ m := hm
    rw [hplus, if_neg (by omega)]
    exact k.next m (by omega)
  · show (if s = S.syms then y else θ.ext s) = none
    by_cases e : s = S.syms
    · rw [if_pos e]; exact hy s hs e
    · rw [if_neg e]; exact k.syms s (Nat.le_trans hsy hs)
  · show 64 ≤ S1.next + 1
    have := k.base; omega
  · rw [hg m] at h2
    rw [hplus] at h3
    by_cases e : m = S.next
    · rw [if_pos e] at h3; cases h3; exact ⟨n, h64, by simp [hn], hb⟩
    · rw [if_neg e] at h3 h2
      by_cases en : m = n
      · rw [if_pos en] at h2; exact (h2 rfl).elim
      · rw [if_neg en] at h2; exact ⟨m, h1, h2, h3⟩
end Go.Exe
namespace Go.Exe
set_option linter.unusedSectionVars false
variable [Opn]
open Go.RowKit

/-- What an operation that writes has come to. -/
def Wrote (P : Program) (a : Act) (o : Oper) (θ : Th) (B : Nat) (S : St) (w : World) (v : AV) (S' : St) : Prop :=
  ∃ θ' w' r v', (execOp a.eval o).run P w = .ok r w' ∧ (r = .value v' ∨ (r = .skip ∧ v' = undef)) ∧ VR θ' v v' ∧ SR θ' B S' w' ∧ Ext θ S w θ' S' w'

section
variable {P : Program} {ty : Tr TI} {θ : Th} {B : Nat} {S S' : St} {w : World} {nt : Nat} {T : Tr AV} {a : Act} {v : AV}

theorem ef_store (hty : TyOk P ty) (k : SR θ B S w) (tr : TR θ nt T a) {o : Oper} {t : TypeId} {x y : Operand} (ho : o.op = .store t x y) (hp : effOp ty S T (.store t x y) = some (v, S')) : Wrote P a o θ B S w v S' := by
  simp only [effOp, efstore, efmapUpdate, efconvert, efappend, efcopy] at hp
  split at hp
  · rename_i ti n off u hti hx hy
    split at hp
    · rename_i cs e mo hn
      split at hp
      · rename_i hlen
        split at hp
        · rename_i cs' hlay
          split at hp
          · rename_i S1 hset
            simp only [Option.some.injEq, Prod.mk.injEq] at hp
            obtain ⟨rfl, rfl⟩ := hp
            simp only [Bool.and_eq_true] at hlen
            have hx := ev_sound tr k.glob hx
            have hy := ev_sound tr k.glob hy
            obtain ⟨rfl, hfit⟩ := lay_eq hlay
            have h64 := (set_eq hset).1
            generalize hxe : a.eval x = x' at hx
            cases hx
            rename_i b hb
            obtain ⟨c, fr, pre, rest, h1, h2, h3, h4, h5⟩ := k.hr.cell hn hb
            have hvc := hy.cells
            have hl1 := hvc.length
            have hl3 := h3.length
            have hcs : c.size = pre.length + rest.length := by rw [← Array.length_toList, h2]; simp
            have hsz : (a.eval y).cells.size = ti.size := by rw [← Array.length_toList, hl1]; exact Nat.eq_of_beq_eq_true hlen.1
            obtain ⟨w', c', r1, r2, r3, r4, r5, r6, r7, r8, r9⟩ := storeCells_run (P := P) (b := b) (a.eval y).cells.toList 0 off w c e fr h1 (h4 h64).2 (hvc.one hlen.2) (by rw [hl1]; omega)
            have hput : c'.toList = Exe.put pre off (a.eval y).cells.toList ++ rest := by
              rw [r8, h2, Nat.add_zero]
              simp only [Exe.put]
              rw [List.take_append_of_le_length (by omega), List.drop_append_of_le_length (by rw [hl1]; omega)]
              simp
            obtain ⟨s1, s2⟩ := k.set hset hn hb r2 r3 r4 r5 r6 r7 ⟨rfl, _, rest, hput, h3.put hvc hfit, h5⟩ (by
              obtain ⟨lo, hi⟩ := fr
              exact (h4 h64).2.imp id (fun h => by rw [r9]; exact h))
            refine ⟨θ, w', .skip, undef, ?_, .inr ⟨rfl, rfl⟩, VR.undef, s1, s2⟩
            simp only [execOp, ho, hxe, Instr.storeAt, Instr.sureAddr, storeVar, Sem.run_bind, Sem.run_pure, Result.andThen_ok, (hty _ _ hti).size, hsz, ne_eq, not_true_eq_false, if_false, r1]
          · cases hp
        · cases hp
      · cases hp
    · cases hp
  · cases hp

theorem ef_mapUpdate (hty : TyOk P ty) (k : SR θ B S w) (tr : TR θ nt T a) {o : Oper} {t : TypeId} {m x y : Operand} (ho : o.op = .mapUpdate t m x y) (hp : effOp ty S T (.mapUpdate t m x y) = some (v, S')) : Wrote P a o θ B S w v S' := by
  simp only [effOp, efstore, efmapUpdate, efconvert, efappend, efcopy] at hp
  split at hp
  · rename_i ti r kk u hti hm hx hy
    split at hp
    · rename_i kt e hk
      split at hp
      · rename_i es cl hpk hn
        split at hp
        · rename_i hfind
          split at hp
          · rename_i S1 hset
            simp only [Option.some.injEq, Prod.mk.injEq] at hp
            obtain ⟨rfl, rfl⟩ := hp
            have hm := ev_sound tr k.glob hm
            have hx := ev_sound tr k.glob hx
            have hy := ev_sound tr k.glob hy
            have h64 := (set_eq hset).1
            obtain ⟨D, hD, hK⟩ := (hty _ _ hti).und
            rw [hk] at hK
            obtain rfl := kd_map hK
            generalize hme : a.eval m = m' at hm
            cases hm
            rename_i b hb
            obtain ⟨es', h1, h2⟩ := k.hr.map hn hb
            have hKD : ∃ D, P.underlying kt = some D := by
              simp only [plainKey] at hpk
              split at hpk
              · cases hpk
              · rename_i tk htk
                obtain ⟨D, h1, _⟩ := (hty _ _ htk).und
                exact ⟨D, h1⟩
            obtain ⟨KD, hKD⟩ := hKD
            have hck := checkKey_sound hty 4 10000 kt kk (a.eval x) false (by decide) hx hpk w
            obtain ⟨r', h3, h4⟩ := findKey_sound hty hKD hx w h2 hfind
            cases h4
            let w' : World := { w with heap := w.heap.setIfInBounds b (.map (es'.push { key := a.eval x, val := a.eval y, born := cl }) (cl + 1)) }
            have hbl : b < w.heap.size := by
              rcases Nat.lt_or_ge b w.heap.size with h | h
              · exact h
              · rw [Array.getElem?_eq_none h] at h1; cases h1
            obtain ⟨s1, s2⟩ := k.set (w' := w') (b := b) (ob' := .map (es'.push { key := a.eval x, val := a.eval y, born := cl }) (cl + 1)) hset hn hb rfl rfl rfl (by simp [w'])
              (fun j hj => by simp only [w']; rw [Array.getElem?_setIfInBounds_ne (fun h => hj h.symm)]) (by simp only [w']; rw [Array.getElem?_setIfInBounds_self_of_lt hbl])
              ⟨rfl, by
                have := h2.append (ERs.cons kk u cl (a.eval x) (a.eval y) [] [] hx hy .nil)
                simpa using this⟩ trivial
            refine ⟨θ, w', .skip, undef, ?_, .inr ⟨rfl, rfl⟩, VR.undef, s1, s2⟩
            have hset : (setObj b (.map (es'.push { key := a.eval x, val := a.eval y, born := cl }) (cl + 1))).run P w = .ok () w' := by
              simp [setObj, Sem.run, h1, w']
            simp only [execOp, ho, hme, Instr.mapUpdate, Sem.run_bind, run_underlying hD, Result.andThen_ok, run_getObj_map (P := P) h1, hck, h3, hset]
            rfl
          · cases hp
        · cases hp
      · cases hp
    · cases hp
  · cases hp

theorem ef_convert (hty : TyOk P ty) (k : SR θ B S w) (tr : TR θ nt T a) {o : Oper} {s d : TypeId} {x : Operand} (ho : o.op = .convert s d x) (hp : effOp ty S T (.convert s d x) = some (v, S')) : Wrote P a o θ B S w v S' := by
  simp only [effOp, efstore, efmapUpdate, efconvert, efappend, efcopy] at hp
  split at hp
  · rename_i ts td l hts htd hx
    split at hp
    · rename_i e hk
      split at hp
      · rename_i te hte
        split at hp
        · rename_i hke hle
          have hx := ev_sound tr k.glob hx
          obtain ⟨Sd, hS, hKs⟩ := (hty _ _ hts).und
          obtain ⟨D, hD, hK⟩ := (hty _ _ htd).und
          rw [hk] at hK
          obtain rfl := kd_slice hK
          obtain ⟨E, hE, hKe⟩ := (hty _ _ hte).und
          rw [hke] at hKe
          obtain rfl := kd_int hKe
          have hte1 : te.size = 1 := by
            obtain ⟨z, hz1, hz2, hz3, hz4, hz5⟩ := (hty _ _ hte).zero
            have := hz4 (by rw [hke]; rfl)
            rw [this] at hz5
            simpa using hz5.symm
          unfold St.pushS at hp
          simp only [fObj_eq, Tr.putK_eq, fN_eq, Option.some.injEq, Prod.mk.injEq] at hp
          obtain ⟨rfl, rfl⟩ := hp
          generalize hxe : a.eval x = x' at hx
          cases hx
          rename_i str
          have hsz : (List.map UInt8.toNat str.data.toList).length = str.size := by simp
          rw [hsz] at hle ⊢
          have hle := Nat.le_of_ble_eq_true hle
          let q : Question := .appendCap str.size 0 e
          let cap := q.cut (w.tape w.drawn q)
          have hcap : str.size ≤ cap := by
            show str.size ≤ Question.cut (.appendCap str.size 0 e) _
            simp only [Question.cut]; omega
          let cells : Array Value := (str.data.map fun b => Value.int .u8 b.toNat) ++ Array.replicate (cap - str.size) (.int .u8 0)
          let w1 : World := { w with drawn := w.drawn + 1, heap := w.heap.push (.cells cells e) }
          let w2 : World := w1.freeze ⟨w.heap.size, cells.size, none⟩ 1
          have hpre : cells.toList = (str.data.toList.map fun b => Value.int .u8 (b.toNat : Nat)) ++ List.replicate (cap - str.size) (.int .u8 0) := by simp [cells]
          have hvr : ∀ θ', VRs θ' ((List.map UInt8.toNat str.data.toList).map fun b => AV.int .u8 (.ofNat b)) (str.data.toList.map fun b => Value.int .u8 (b.toNat : Nat)) := by
            intro θ'
            induction str.data.toList with
            | nil => exact .nil
            | cons b bs ih => exact .cons _ _ _ _ (.int _ _) ih
          have hheap : w2.heap = w.heap.push (.cells cells e (cells.size, cells.size + 1)) := by
            apply Array.ext_getElem?
            intro i
            simp only [w2, w1, World.freeze, Nat.one_ne_zero, if_false, Array.getElem?_modify, Array.getElem?_push]
            by_cases hi : i = w.heap.size
            · subst hi; simp
            · have hi2 : ¬ w.heap.size = i := fun h => hi h.symm
              simp [hi, hi2]
          obtain ⟨s1, s2⟩ := SR.plus (w' := w2) (r := Nat.succ S.ver) (k := k) (o := .cells ((List.map UInt8.toNat str.data.toList).map fun b => AV.int .u8 (.ofNat b)) e (some (S.syms, te.size))) (ob := .cells cells e (cells.size, cells.size + 1)) (y := some (cap - str.size)) (sy := S.syms + 1) (Nat.le_succ _)
            (fun s h1 h2 => by omega) rfl rfl rfl hheap ⟨rfl, _, _, hpre, hvr _, fun s z e => by
              cases e
              exact ⟨cap - str.size, by simp [Th.plus], by simp [hte1]⟩⟩ (.inr (Nat.le_refl _))
          refine ⟨_, w2, .value (.slice (some ⟨w.heap.size, 0, none⟩) str.size cap), _, ?_, .inl rfl, ?_, s1, s2⟩
          · have hst : w1.shape? w.heap.size = some (e, cells.size) := by simp [w1, World.shape?]
            have hch : (choose q).run P w = .ok cap { w with drawn := w.drawn + 1 } := by simp [choose, Sem.run, q, Question.forced, cap]
            have hcv : (convert s d (.string str)).run P w = .ok (.slice (some ⟨w.heap.size, 0, none⟩) str.size cap) w2 := by
              simp only [convert, Sem.run_bind, run_underlying hS, run_underlying hD, Result.andThen_ok]
              have : (Conv.stringToBytes e str).run P w = .ok (.slice (some ⟨w.heap.size, 0, none⟩) str.size cap) w2 := by
                simp only [Conv.stringToBytes, Sem.run_bind]
                rw [hch]
                simp only [Result.andThen_ok, newRow, Sem.run_bind, run_newObj, Sem.run_pure, markStringish, run_shape]
                have : World.shape? { w with drawn := w.drawn + 1, heap := w.heap.push (.cells cells e) } w.heap.size = some (e, cells.size) := hst
                simp only [cells] at this
                simp only [this, Sem.run_bind, Result.andThen_ok, run_freeze]
                rfl
              cases Sd <;> simp only [Sem.run_bind, run_underlying hE, Result.andThen_ok, this]
            simp only [execOp, ho, hxe, Sem.run_bind, hcv, Result.andThen_ok, Sem.run_pure]
          · exact .sliceS _ _ _ _ _ _ (cap - str.size) _ (by omega) (by simp [Th.plus]) (by simp [Th.plus])
        · cases hp
      · cases hp
    · cases hp
  · cases hp

theorem lenA_sound {x : AV} {x' : Value} {n : Nat} (hx : VR θ x x') (h : lenA x = some n) (w : World) : (Builtin.lenOf x').run P w = .ok n w := by
  cases hx <;> simp only [lenA, Option.some.injEq, reduceCtorEq] at h <;> subst h <;> simp [Builtin.lenOf]

/-- The first cells of what is appended or copied. -/
theorem firstA_sound (k : SR θ B S w) {size n : Nat} {x : AV} {x' : Value} {l : List AV} (hx : VR θ x x') (hn : ∃ m, lenA x = some m ∧ n ≤ m) (h : firstA S.heap size n x = some l) :
    ∃ l', (Builtin.firstCells size n x').run P w = .ok l'.toArray w ∧ VRs θ l l' := by
  obtain ⟨m, hm, hnm⟩ := hn
  have hcell : ∀ nn off b, θ.blk nn = some b → (match S.heap.get nn with | some (.cells cs _ _) => cut cs off (n * size) | _ => none) = some l → ∃ l', (loadCells ⟨b, off, none⟩ (n * size)).run P w = .ok l'.toArray w ∧ VRs θ l l' := by
    intro nn off b hb hc
    split at hc
    · rename_i cs e mo hcs
      obtain ⟨cc, fr, pre, rest, h1, h2, h3, _⟩ := k.hr.cell hcs hb
      obtain ⟨h4, h5⟩ := h3.cut' hc
      have hlen : ((pre.drop off).take (n * size)).length = n * size := by simp; omega
      have hsame : ((pre.drop off).take (n * size)) = (cc.toList.drop off).take (n * size) := by
        rw [h2]
        rcases h5 with h5 | h5
        · rw [h5]; simp
        · rw [List.drop_append_of_le_length (by omega), List.take_append_of_le_length (by simp; omega)]
      have := cells_at h1 off ((pre.drop off).take (n * size)) (by rw [hlen]; exact hsame) P
      rw [hlen] at this
      exact ⟨_, this, h4⟩
    · cases hc
  cases hx <;> simp only [lenA, Option.some.injEq, reduceCtorEq] at hm <;> subst hm
  case sliceN =>
    simp only [firstA] at h
    split at h
    · simp only [Option.some.injEq] at h; subst h; exact ⟨[], by simp [Builtin.firstCells], .nil⟩
    · cases h
  case slice => exact hcell _ _ _ (by assumption) h
  case sliceS => exact hcell _ _ _ (by assumption) h
  case slice0 n' off s ad =>
    obtain rfl : n = 0 := by omega
    have : l = [] := by
      simp only [firstA] at h
      split at h
      · simp only [Nat.zero_mul, cut, Exe.take, Option.some.injEq] at h; exact h.symm
      · cases h
    subst this
    exact ⟨[], by simp [Builtin.firstCells, loadCells, loadCellsFrom], .nil⟩
  case str s =>
    simp only [firstA] at h
    split at h
    · rename_i r hr
      simp only [Option.some.injEq] at h
      subst h
      have hr := take_eq _ _ _ hr
      subst hr
      refine ⟨((s.data.toList.take n).map fun b => Value.int .u8 (b.toNat : Nat)), ?_, ?_⟩
      · simp only [Builtin.firstCells, Sem.run_pure]
        congr 1
        apply Array.ext'
        simp [ByteArray.data_extract, Array.toList_extract, List.extract_eq_take_drop]
      · rw [← List.map_take]
        have : ∀ t : List UInt8, VRs θ ((t.map UInt8.toNat).map fun b => AV.int .u8 (.ofNat b)) (t.map fun b => Value.int .u8 (b.toNat : Nat)) := by
          intro t
          induction t with
          | nil => exact .nil
          | cons b bs ih => exact .cons _ _ _ _ (.int _ _) ih
        exact this _
    · cases h

theorem kd_notint {D : TypeDesc} {kd : Kd} (h : KdOk P D kd) (h1 : ∀ k, kd ≠ .int k) (h2 : kd ≠ .other) : ∀ k, D ≠ .int k := by
  intro k e
  subst e
  cases kd <;> simp [KdOk] at h
  · subst h; exact h1 _ rfl
  · exact h2 rfl
end
end Go.Exe
namespace Go.Exe
set_option linter.unusedSectionVars false
variable [Opn]
open Go.RowKit

section
variable {P : Program} {ty : Tr TI} {θ : Th} {B : Nat} {S S' : St} {w : World} {nt : Nat} {T : Tr AV} {a : Act} {v : AV}

/-- The ways of an append, told by the model's own text. -/
theorem append_stay {t xt e : TypeId} {D : TypeDesc} (hD : P.underlying t = some (.slice e)) (hX : P.underlying xt = some D) (hn : ∀ k, D ≠ .int k) {size n len cap : Nat} {base : Option Addr} {x' : Value} {new : List Value} (rt : TypeId)
    (hsz : ∀ w, (sizeOf e).run P w = .ok size w) (hlen : (Builtin.lenOf x').run P w = .ok n w) (hfirst : (Builtin.firstCells size n x').run P w = .ok new.toArray w) (hroom : len + n ≤ cap) :
    (Builtin.append_ #[t, xt] rt #[.slice base len cap, x']).run P w =
      Result.andThen (((match base with | some a => storeCells (a.add (len * size)) new | none => pure ()) : Sem Unit).run P w) (fun _ w' => .ok (.slice base (len + n) cap) w') := by
  have hz : (match D with | .int _ => true | _ => false) = false := by cases D <;> first | rfl | exact (hn _ rfl).elim
  cases base with
  | none => simp [Builtin.append_, run_underlying hD, run_underlying hX, hsz, hz, hlen, hroom, hfirst]
  | some b => simp [Builtin.append_, run_underlying hD, run_underlying hX, hsz, hz, hlen, hroom, hfirst]

theorem append_grow {t xt e : TypeId} {D : TypeDesc} {i : TypeInfo} {z : Value} (hD : P.underlying t = some (.slice e)) (hX : P.underlying xt = some D) (hn : ∀ k, D ≠ .int k) {size n len cap : Nat} {base : Option Addr} {x' : Value} {old new : List Value} (rt : TypeId)
    (hsz : ∀ w, (sizeOf e).run P w = .ok size w) (hi : ∀ w, (typeInfo e).run P w = .ok i w) (hzv : ∀ w, (zeroValue e).run P w = .ok z w) (hlen : (Builtin.lenOf x').run P w = .ok n w) (hfirst : (Builtin.firstCells size n x').run P w.drew = .ok new.toArray w.drew)
    (hold : (Builtin.firstCells size len (.slice base len cap)).run P w.drew = .ok old.toArray w.drew) (hroom : ¬ len + n ≤ cap) (hneed : len + n ≤ 1000000) (hb : i.bytes ≤ 1000000) (hb0 : i.bytes ≠ 0) :
    (Builtin.append_ #[t, xt] rt #[.slice base len cap, x']).run P w =
      .ok (.slice (some ⟨w.heap.size, 0, none⟩) (len + n) (grownCap w (len + n) cap e)) (w.drew.alloc (.cells (old.toArray ++ new.toArray ++ Builtin.zeroCells z.cells (grownCap w (len + n) cap e - (len + n))) e)) := by
  have hz : (match D with | .int _ => true | _ => false) = false := by cases D <;> first | rfl | exact (hn _ rfl).elim
  have h1 : ¬ (Builtin.nextslicecap (len + n) cap * i.bytes > 2 ^ 48) := by
    have h2 := nextslicecap_le (need := len + n) (old := cap) (by omega)
    have : Builtin.nextslicecap (len + n) cap * i.bytes ≤ 2000000 * 1000000 := Nat.mul_le_mul (by omega) hb
    omega
  simp [Builtin.append_, run_underlying hD, run_underlying hX, hsz, hz, hlen, hroom, hfirst, hi, hb0, h1, hold, hzv, Question.forced, newRow, grownCap]
  congr 2
  apply Array.ext'
  simp

theorem ef_append (hty : TyOk P ty) (k : SR θ B S w) {t xt : TypeId} {s x : AV} {s' x' : Value} (hs : VR θ s s') (hx : VR θ x x') (rt : TypeId) (hp : appendA ty S t xt s x = some (v, S')) :
    ∃ θ' w' v', (Builtin.append_ #[t, xt] rt #[s', x']).run P w = .ok v' w' ∧ VR θ' v v' ∧ SR θ' B S' w' ∧ Ext θ S w θ' S' w' := by
  unfold appendA at hp
  split at hp
  · rename_i ti tx base len room more n hti htx hn
    obtain ⟨D, hD, hK⟩ := (hty _ _ hti).und
    obtain ⟨X, hX, hKX⟩ := (hty _ _ htx).und
    split at hp
    · cases hp
    · cases hp
    · rename_i e hk hno1 hno2
      rw [hk] at hK
      obtain rfl := kd_slice hK
      have hXn := kd_notint hKX (fun k e => hno1 k e) (fun e => hno2 e)
      split at hp
      · cases hp
      · rename_i te hte
        have hE := hty _ _ hte
        split at hp
        · cases hp
        · rename_i new hnew
          have hl := fun w => lenA_sound (P := P) hx hn w
          obtain ⟨new', hf1, hf2⟩ := firstA_sound (P := P) k hx ⟨n, hn, Nat.le_refl _⟩ hnew
          split at hp
          · rename_i hroom
            have hroom := Nat.le_of_ble_eq_true hroom
            have hnewlen := hf2.length
            cases n with
            | zero =>
              simp only [Option.some.injEq, Prod.mk.injEq] at hp
              obtain ⟨rfl, rfl⟩ := hp
              have h0 : new' = [] := by
                have : new = [] := by
                  cases hx <;> simp only [lenA, Option.some.injEq, reduceCtorEq] at hn <;> simp only [firstA] at hnew
                  case sliceN => simpa using hnew.symm
                  case slice => split at hnew <;> simp_all [cut, Exe.take]
                  case sliceS => split at hnew <;> simp_all [cut, Exe.take]
                  case slice0 => split at hnew <;> simp_all [cut, Exe.take]
                  case str => simp_all [Exe.take]
                rw [this] at hnewlen
                exact List.eq_nil_of_length_eq_zero (by simpa using hnewlen)
              subst h0
              have hst : ∀ (b : Option Addr), ((match b with | some a => storeCells (a.add (len * te.size)) [] | none => pure ()) : Sem Unit).run P w = .ok () w := by
                intro b; cases b <;> rfl
              have hcap : ∃ b cap, s' = .slice b len cap ∧ len + 0 ≤ cap := by
                cases hs
                case sliceN => exact ⟨_, _, rfl, by omega⟩
                case slice => exact ⟨_, _, rfl, by omega⟩
                case sliceS => exact ⟨_, _, rfl, by omega⟩
                case slice0 => exact ⟨_, _, rfl, by omega⟩
              obtain ⟨b, cap, rfl, hc⟩ := hcap
              refine ⟨θ, w, .slice b len cap, ?_, hs, k, .refl _ _ _⟩
              rw [append_stay hD hX hXn rt hE.size (hl w) hf1 hc, hst]
              rfl
            | succ n =>
              simp only at hp
              split at hp
              · cases hp
              · rename_i bn off
                split at hp
                · rename_i cs el mo hcs
                  split at hp
                  · rename_i cs' hlay hone
                    split at hp
                    · rename_i S1 hset
                      simp only [Option.some.injEq, Prod.mk.injEq] at hp
                      obtain ⟨rfl, rfl⟩ := hp
                      obtain ⟨rfl, hfit⟩ := lay_eq hlay
                      have h64 := (set_eq hset).1
                      have hcap : ∃ b cap, s' = .slice (some ⟨b, off, none⟩) len cap ∧ len + room ≤ cap ∧ θ.blk bn = some b ∧ (∀ θ', θ.Le θ' → VR θ' (.slice (some (bn, off)) (len + (n + 1)) (room - (n + 1)) more) (.slice (some ⟨b, off, none⟩) (len + (n + 1)) cap)) := by
                        cases hs
                        case slice => exact ⟨_, _, rfl, by omega, by assumption, fun θ' hl => .slice _ _ _ _ _ _ (by omega) (hl.blk _ _ (by assumption))⟩
                        case sliceS =>
                          rename_i b xx cp hcp hbk hxx
                          exact ⟨_, _, rfl, by omega, by assumption, fun θ' hl => .sliceS _ _ _ _ _ _ xx _ (by omega) (hl.blk _ _ (by assumption)) (hl.ext _ _ (by assumption))⟩
                        case slice0 => omega
                      obtain ⟨b, cap, rfl, hc, hb, hvr⟩ := hcap
                      obtain ⟨c, fr, pre, rest, h1, h2, h3, h4, h5⟩ := k.hr.cell hcs hb
                      have hl3 := h3.length
                      have hcs' : c.size = pre.length + rest.length := by rw [← Array.length_toList, h2]; simp
                      obtain ⟨w', c', r1, r2, r3, r4, r5, r6, r7, r8, r9⟩ := storeCells_run (P := P) (b := b) new' 0 (off + len * te.size) w c el fr h1 (h4 h64).2 (hf2.one hone) (by rw [hnewlen]; omega)
                      have hput : c'.toList = Exe.put pre (off + len * te.size) new' ++ rest := by
                        rw [r8, h2, Nat.add_zero]
                        simp only [Exe.put]
                        rw [List.take_append_of_le_length (by omega), List.drop_append_of_le_length (by rw [hnewlen]; omega)]
                        simp
                      obtain ⟨s1, s2⟩ := k.set hset hcs hb r2 r3 r4 r5 r6 r7 ⟨rfl, _, rest, hput, h3.put hf2 hfit, h5⟩ (by
                        obtain ⟨lo, hi⟩ := fr
                        exact (h4 h64).2.imp id (fun h => by rw [r9]; exact h))
                      refine ⟨θ, w', .slice (some ⟨b, off, none⟩) (len + (n + 1)) cap, ?_, hvr θ (.refl _), s1, s2⟩
                      rw [append_stay hD hX hXn rt hE.size (hl w) hf1 (by omega)]
                      simp only [addr_add, r1, Result.andThen_ok]
                    · cases hp
                  · cases hp
                · cases hp
          · rename_i hroom
            have hroom : ¬ n ≤ room := fun h => by rw [Nat.ble_eq_true_of_le h] at hroom; cases hroom
            split at hp
            · rename_i old bt hold hneed hbytes hbt
              have hneed := Nat.le_of_ble_eq_true hneed
              have hbytes := Nat.le_of_ble_eq_true hbytes
              obtain ⟨i, hi1, hi2⟩ := hE.info
              obtain ⟨z, hz1, hz2, _, _, hz5⟩ := hE.zero
              have hb0 : i.bytes ≠ 0 := by rw [hi2, hbt]; exact Nat.succ_ne_zero _
              have kd : SR θ B S w.drew := k.congr rfl
              obtain ⟨newd, hfd1, hfd2⟩ := firstA_sound (P := P) kd hx ⟨n, hn, Nat.le_refl _⟩ hnew
              obtain ⟨oldd, hod1, hod2⟩ := firstA_sound (P := P) kd hs ⟨len, rfl, Nat.le_refl _⟩ hold
              have holdlen := hod2.length
              have hnewdlen := hfd2.length
              -- it grows into a row of its own
              have hgrow : ∀ (S0 : St), SR θ B S0 w → Ext θ S w θ S0 w → S0.next = S.next → S0.syms = S.syms → ∀ (bs : Option Addr) (cap : Nat), s' = .slice bs len cap → ¬ len + n ≤ cap →
                  (old ++ new).length = (len + n) * te.size →
                  S0.pushS (.cells (old ++ new) e (some (S.syms, te.size))) (fun S' => some (AV.slice (some (S.next, 0)) (len + n) 0 (some S.syms), S')) = some (v, S') →
                  ∃ θ' w' v', (Builtin.append_ #[t, xt] rt #[s', x']).run P w = .ok v' w' ∧ VR θ' v v' ∧ SR θ' B S' w' ∧ Ext θ S w θ' S' w' := by
                intro S0 k0 x0 e1 e2 bs cap hse hcap hlens hp
                subst hse
                unfold St.pushS at hp
                simp only [fObj_eq, Tr.putK_eq, fN_eq, Option.some.injEq, Prod.mk.injEq] at hp
                obtain ⟨rfl, rfl⟩ := hp
                have hge : len + n ≤ grownCap w (len + n) cap e := grownCap_ge _ _ _ _
                have hrun := append_grow hD hX hXn rt hE.size hi1 hz1 (hl w) hfd1 hod1 hcap hneed (by rw [hi2]; exact hbytes) hb0
                have hlen2 : (oldd ++ newd).length = (len + n) * te.size := by rw [← hlens]; simp [holdlen, hnewdlen]
                obtain ⟨s1, s2⟩ := SR.plus (k := k0) (r := Nat.succ S0.ver) (w' := w.drew.alloc (.cells (oldd.toArray ++ newd.toArray ++ Builtin.zeroCells z.cells (grownCap w (len + n) cap e - (len + n))) e)) (o := .cells (old ++ new) e (some (S0.syms, te.size)))
                  (ob := .cells (oldd.toArray ++ newd.toArray ++ Builtin.zeroCells z.cells (grownCap w (len + n) cap e - (len + n))) e) (y := some (grownCap w (len + n) cap e - (len + n))) (sy := S0.syms + 1) (Nat.le_succ _)
                  (fun s h1 h2 => by omega) rfl rfl rfl rfl
                  ⟨rfl, oldd ++ newd, (Builtin.zeroCells z.cells (grownCap w (len + n) cap e - (len + n))).toList, by simp, (hod2.append hfd2).mono (Th.plus_le (k0.next _ (Nat.le_refl _)) (k0.syms _ (Nat.le_refl _))), fun s y he => by
                    cases he
                    exact ⟨grownCap w (len + n) cap e - (len + n), by simp [Th.plus], by simp [Builtin.zeroCells, hz5]⟩⟩ (.inl rfl)
                refine ⟨_, _, _, hrun, ?_, by rw [← e2]; exact s1, by rw [← e2]; exact x0.trans s2⟩
                rw [← e1, ← e2]
                exact .sliceS _ _ _ _ _ _ (grownCap w (len + n) cap e - (len + n)) _ (by omega) (by simp [Th.plus]) (by simp [Th.plus])
              split at hp
              · cases hp
              · rename_i hlens
                have hlens : old.length + new.length = (len + n) * te.size := Nat.eq_of_beq_eq_true hlens
                have hlens' : (old ++ new).length = (len + n) * te.size := by rw [List.length_append]; exact hlens
                split at hp
                · cases hs
                  case sliceN => exact hgrow S k (.refl _ _ _) rfl rfl _ _ rfl (by omega) hlens' hp
                  case slice => exact hgrow S k (.refl _ _ _) rfl rfl _ _ rfl (by omega) hlens' hp
                · rename_i sy
                  split at hp
                  · rename_i bn hone hroom0
                    split at hp
                    · rename_i cs el sy' zz hcs
                      split at hp
                      · rename_i S1 hchk hset
                        simp only [Bool.and_eq_true] at hchk
                        obtain ⟨⟨⟨hc1, hc2⟩, hc3⟩, hc4⟩ := hchk
                        have hc1 := Nat.eq_of_beq_eq_true hc1
                        have hc2 := Nat.eq_of_beq_eq_true hc2
                        have hc3 := Nat.eq_of_beq_eq_true hc3
                        have hc4 := Nat.eq_of_beq_eq_true hc4
                        subst hc1; subst hc2; subst hc3
                        obtain ⟨h64, hn1, hsy1, _⟩ := set_eq hset
                        have hkill := k.kill hset
                        rw [hsy1, hn1] at hp
                        cases hs
                        case slice0 => exact hgrow S1 hkill.1 hkill.2 hn1 hsy1 _ _ rfl (by omega) hlens' hp
                        case sliceS =>
                          rename_i b x cap hb hcap hx'
                          by_cases hin : len + n ≤ cap
                          · unfold St.pushS at hp
                            simp only [fObj_eq, Tr.putK_eq, fN_eq, Option.some.injEq, Prod.mk.injEq] at hp
                            obtain ⟨rfl, rfl⟩ := hp
                            obtain ⟨c, fr, pre, rest, h1, h2, h3, h4, h5⟩ := k.hr.cell hcs hb
                            obtain ⟨x2, hx2, hrest⟩ := h5 _ _ rfl
                            rw [hx'] at hx2
                            cases hx2
                            have hl3 := h3.length
                            have hcsz : c.size = pre.length + rest.length := by rw [← Array.length_toList, h2]; simp
                            obtain ⟨new', hf1, hf2⟩ := firstA_sound (P := P) k hx ⟨n, hn, Nat.le_refl _⟩ hnew
                            have hnl := hf2.length
                            have hold' : old = cs := by
                              simp only [firstA, hcs] at hold
                              have := take_eq _ _ _ hold
                              rw [this, drop_eq, List.drop_zero, hc4, List.take_length]
                            have hnsz : new.length = n * te.size := by rw [hold', ← hc4, Nat.add_mul] at hlens; omega
                            have hnx : n ≤ x := by omega
                            have hmul : n * te.size ≤ x * te.size := Nat.mul_le_mul_right _ hnx
                            obtain ⟨w', c', r1, r2, r3, r4, r5, r6, r7, r8, r9⟩ := storeCells_run (P := P) (b := b) new' 0 (0 + len * te.size) w c el fr h1 (h4 h64).2 (hf2.one hone) (by rw [hnl]; omega)
                            have hput : c'.toList = (pre ++ new') ++ rest.drop new'.length := by
                              rw [r8, h2]
                              simp only [Exe.put, Nat.add_zero, Nat.zero_add]
                              rw [hc4, ← hl3, List.take_left, List.drop_append, List.drop_of_length_le (by omega)]
                              simp
                            have hle2 : θ.Le (θ.plus S.next b S.syms (some (x - n))) := Th.plus_le (k.next _ (Nat.le_refl _)) (k.syms _ (Nat.le_refl _))
                            obtain ⟨s1, s2⟩ := SR.renew (k := k) (r := Nat.succ S1.ver) (w' := w') (o' := .cells (old ++ new) el (some (S.syms, te.size))) (ob' := .cells c' el fr) (y := some (x - n)) (sy := S.syms + 1) hset hcs hb (Nat.le_succ _) (fun s h1 h2 => by omega) r2 r3 r4 r5 r6 r7
                              ⟨rfl, pre ++ new', rest.drop new'.length, hput, by rw [hold']; exact (h3.append hf2).mono hle2, fun s y he => by
                                cases he
                                refine ⟨x - n, by simp [Th.plus], ?_⟩
                                rw [List.length_drop, hrest, hnl, hnsz, Nat.sub_mul]⟩ (by
                              obtain ⟨lo, hi⟩ := fr
                              exact (h4 h64).2.imp id (fun h => by rw [r9]; exact h))
                            refine ⟨_, w', .slice (some ⟨b, 0, none⟩) (len + n) cap, ?_, ?_, by rw [hsy1]; exact s1, by rw [hsy1]; exact s2⟩
                            · rw [append_stay hD hX hXn rt hE.size (hl w) hf1 hin]
                              simp only [addr_add, r1, Result.andThen_ok]
                            · exact .sliceS _ _ _ _ _ _ (x - n) _ (by omega) (by simp [Th.plus]) (by simp [Th.plus])
                          · exact hgrow S1 hkill.1 hkill.2 hn1 hsy1 _ _ rfl hin hlens' hp
                      · cases hp
                    · cases hp
                  · cases hp
            · cases hp
    · cases hp
  · cases hp
end
end Go.Exe
namespace Go.Exe
set_option linter.unusedSectionVars false
variable [Opn]
open Go.RowKit

section
variable {P : Program} {ty : Tr TI} {θ : Th} {B : Nat} {S S' : St} {w : World} {nt : Nat} {T : Tr AV} {a : Act} {v : AV}

theorem firstA_zero {h : Tr AObj} {size : Nat} {x : AV} {l : List AV} (hp : firstA h size 0 x = some l) : l = [] := by
  cases x <;> simp only [firstA, reduceCtorEq] at hp
  case str => simp_all [Exe.take]
  case slice b _ _ _ =>
    cases b with
    | none => simpa [firstA] using hp.symm
    | some p =>
      obtain ⟨n, o⟩ := p
      simp only [firstA] at hp
      split at hp
      · simp_all [cut, Exe.take]
      · cases hp

theorem ef_call (hty : TyOk P ty) (k : SR θ B S w) (tr : TR θ nt T a) {o : Oper} {cl : Call} (ho : o.op = .call cl) (hp : effOp ty S T (.call cl) = some (v, S')) : Wrote P a o θ B S w v S' := by
  obtain ⟨callee, args, argTypes⟩ := cl
  cases callee with
  | value f => simp [effOp, efstore, efmapUpdate, efconvert, efappend, efcopy] at hp
  | invoke r m => simp [effOp, efstore, efmapUpdate, efconvert, efappend, efcopy] at hp
  | builtin b =>
    have hres : (execOp a.eval o).run P w = (builtin b argTypes o.type (args.map fun | .const _ => true | _ => false) (args.map a.eval)).run P w := by
      simp only [execOp, ho, resolve, invoke, Sem.run_bind, Sem.run_pure, Result.andThen_ok]
      rfl
    cases b <;> (try (simp [effOp, efstore, efmapUpdate, efconvert, efappend, efcopy] at hp; done))
    case append =>
      simp only [effOp, efstore, efmapUpdate, efconvert, efappend, efcopy] at hp
      split at hp
      · rename_i t xt s x hat har
        have e1 : argTypes = #[t, xt] := by apply Array.ext'; simpa using hat
        have e2 : args = #[s, x] := by apply Array.ext'; simpa using har
        subst e1; subst e2
        split at hp
        · rename_i s1 x1 hs hx
          obtain ⟨θ', w', v', h1, h2, h3, h4⟩ := ef_append hty k (ev_sound tr k.glob hs) (ev_sound tr k.glob hx) o.type hp
          refine ⟨θ', w', .value v', v', ?_, .inl rfl, h2, h3, h4⟩
          rw [hres]
          simp [builtin, h1]
        · cases hp
      · cases hp
    case copy =>
      simp only [effOp, efstore, efmapUpdate, efconvert, efappend, efcopy] at hp
      split at hp
      · rename_i t rest d x hat har
        have e2 : args = #[d, x] := by apply Array.ext'; simpa using har
        have e1 : argTypes[0]? = some t := by rw [← Array.getElem?_toList, hat]; rfl
        subst e2
        split at hp
        · rename_i ti base dl room more x1 hti hd hx
          split at hp
          · rename_i e xl hk hxl
            split at hp
            · rename_i te hte
              obtain ⟨D, hD, hK⟩ := (hty _ _ hti).und
              rw [hk] at hK
              obtain rfl := kd_slice hK
              have hd := ev_sound tr k.glob hd
              have hx := ev_sound tr k.glob hx
              have hn : minA xl dl = Nat.min xl dl := by
                unfold minA
                split
                · rename_i h; have := Nat.le_of_ble_eq_true h; exact (Nat.min_eq_left this).symm
                · rename_i h
                  have : ¬ xl ≤ dl := fun h' => by rw [Nat.ble_eq_true_of_le h'] at h; cases h
                  exact (Nat.min_eq_right (by omega)).symm
              simp only [hn] at hp
              have hl := lenA_sound (P := P) hx hxl w
              split at hp
              · rename_i cs hcs
                obtain ⟨l', hf1, hf2⟩ := firstA_sound (P := P) k hx ⟨xl, hxl, Nat.min_le_left _ _⟩ hcs
                have hbase : ∃ b cap, a.eval d = .slice b dl cap := by
                  generalize a.eval d = d' at hd
                  cases hd <;> exact ⟨_, _, rfl⟩
                obtain ⟨bd, cap, hde⟩ := hbase
                have hrun : (execOp a.eval o).run P w = Result.andThen (((match bd with | some a => storeCells a l' | none => pure ()) : Sem Unit).run P w) (fun _ w' => .ok (.value (goInt (Nat.min xl dl))) w') := by
                  rw [hres]
                  cases bd <;> simp [builtin, Builtin.copy_, e1, run_underlying hD, hde, hl, (hty _ _ hte).size, hf1]
                  generalize (storeCells _ l').run P w = r
                  cases r <;> rfl
                have hll := hf2.length
                cases h0 : Nat.min xl dl with
                | zero =>
                  rw [h0] at hp
                  simp only [Option.some.injEq, Prod.mk.injEq] at hp
                  obtain ⟨rfl, rfl⟩ := hp
                  rw [h0] at hcs hrun
                  have : l' = [] := by
                    have : cs = [] := firstA_zero hcs
                    rw [this] at hll
                    exact List.eq_nil_of_length_eq_zero (by simpa using hll)
                  subst this
                  refine ⟨θ, w, .value (goInt 0), goInt 0, ?_, .inl rfl, .int _ _, k, .refl _ _ _⟩
                  rw [hrun]
                  cases bd <;> rfl
                | succ n =>
                  rw [h0] at hp
                  cases base with
                  | none => cases hp
                  | some bo =>
                  obtain ⟨bn, off⟩ := bo
                  simp only at hp
                  split at hp
                  · rename_i old el mo hold
                    split at hp
                    · rename_i lnew hlay hone
                      split at hp
                      · rename_i S1 hset
                        simp only [Option.some.injEq, Prod.mk.injEq] at hp
                        obtain ⟨rfl, rfl⟩ := hp
                        obtain ⟨rfl, hfit⟩ := lay_eq hlay
                        have h64 := (set_eq hset).1
                        have hdl : dl ≠ 0 := fun e => by rw [e] at h0; simp [Nat.min_def] at h0
                        have hb : ∃ b, bd = some ⟨b, off, none⟩ ∧ θ.blk bn = some b := by
                          rw [hde] at hd
                          cases hd
                          case slice => exact ⟨_, rfl, by assumption⟩
                          case sliceS => exact ⟨_, rfl, by assumption⟩
                          case slice0 => exact (hdl rfl).elim
                        obtain ⟨b, rfl, hb⟩ := hb
                        obtain ⟨c, fr, pre, rest, h1, h2, h3, h4, h5⟩ := k.hr.cell hold hb
                        have hl3 := h3.length
                        have hcs' : c.size = pre.length + rest.length := by rw [← Array.length_toList, h2]; simp
                        obtain ⟨w', c', r1, r2, r3, r4, r5, r6, r7, r8, r9⟩ := storeCells_run (P := P) (b := b) l' 0 off w c el fr h1 (h4 h64).2 (hf2.one hone) (by rw [hll]; omega)
                        have hput : c'.toList = Exe.put pre off l' ++ rest := by
                          rw [r8, h2, Nat.add_zero]
                          simp only [Exe.put]
                          rw [List.take_append_of_le_length (by omega), List.drop_append_of_le_length (by rw [hll]; omega)]
                          simp
                        obtain ⟨s1, s2⟩ := k.set hset hold hb r2 r3 r4 r5 r6 r7 ⟨rfl, _, rest, hput, h3.put hf2 hfit, h5⟩ (by
                          obtain ⟨lo, hi⟩ := fr
                          exact (h4 h64).2.imp id (fun h => by rw [r9]; exact h))
                        refine ⟨θ, w', .value (goInt (Nat.min xl dl)), goInt (Nat.min xl dl), ?_, .inl rfl, by rw [h0]; exact .int _ _, s1, s2⟩
                        rw [hrun]
                        simp only [r1, Result.andThen_ok]
                      · cases hp
                    · cases hp
                  · cases hp
              · cases hp
            · cases hp
          · cases hp
        · cases hp
      · cases hp

theorem eff_sound (hty : TyOk P ty) (k : SR θ B S w) (tr : TR θ nt T a) (o : Oper) (hp : effOp ty S T o.op = some (v, S')) : Wrote P a o θ B S w v S' := by
  cases ho : o.op <;> rw [ho] at hp
  case store => exact ef_store hty k tr ho hp
  case mapUpdate => exact ef_mapUpdate hty k tr ho hp
  case convert => exact ef_convert hty k tr ho hp
  case call => exact ef_call hty k tr ho hp
  all_goals simp [effOp, efstore, efmapUpdate, efconvert, efappend, efcopy] at hp
end
end Go.Exe
