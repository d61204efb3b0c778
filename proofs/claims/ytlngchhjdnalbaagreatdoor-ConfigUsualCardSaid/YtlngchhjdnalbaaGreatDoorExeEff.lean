/- The executor: the state, as it is written. -/
import Derived.Test.YtlngchhjdnalbaaGreatDoorExeOps4
set_option linter.unusedVariables false
set_option linter.unusedSimpArgs false
namespace Go.Exe
open Go.RowKit

/-- Cells written one behind the other. -/
theorem storeCells_run {P : Program} {b : Nat} : ∀ (l : List Value) (i o : Nat) (w : World) (c : Array Value) (e : TypeId) (fr : Nat × Nat), w.heap[b]? = some (.cells c e fr) → (fr.1 = fr.2 ∨ c.size ≤ fr.1) →
    (∀ x ∈ l, Value.oneCell' x = true) → o + i + l.length ≤ c.size →
    ∃ w' c', (storeCells ⟨b, o, none⟩ l i).run P w = .ok () w' ∧ w'.os = w.os ∧ w'.tape = w.tape ∧ w'.output = w.output ∧ w'.heap.size = w.heap.size ∧ (∀ k, k ≠ b → w'.heap[k]? = w.heap[k]?) ∧
      w'.heap[b]? = some (.cells c' e fr) ∧ c'.toList = Exe.put c.toList (o + i) l ∧ c'.size = c.size := by
  intro l
  induction l with
  | nil => intro i o w c e fr hb _ _ _; exact ⟨w, c, rfl, rfl, rfl, rfl, rfl, fun _ _ => rfl, hb, by simp [Exe.put], rfl⟩
  | cons v l ih =>
    intro i o w c e fr hb hf h1 hl
    simp only [List.length_cons] at hl
    have hcell : w.cell? ⟨b, o + i, none⟩ = c[o + i]? := cell_of_row w b (o + i) c e fr hb
    have hlt : o + i < c.size := by omega
    rw [Array.getElem?_eq_getElem hlt] at hcell
    have hfz : w.frozen? ⟨b, o + i, none⟩ = false := by
      unfold World.frozen?
      rw [hb]
      obtain ⟨lo, hi⟩ := fr
      simp only at hf ⊢
      rcases hf with rfl | hf
      · first | (simp; done) | (simp; omega)
      · first | (simp; done) | (simp; omega)
    have hst : (store ⟨b, o + i, none⟩ v).run P w = .ok () (w.setCell ⟨b, o + i, none⟩ v) := by
      rw [run_store P w _ v .plain (h1 v (List.mem_cons_self ..)), hcell]
      simp [hfz]
    have hb1 : (w.setCell ⟨b, o + i, none⟩ v).heap[b]? = some (.cells (c.setIfInBounds (o + i) v) e fr) := by
      simp [World.setCell, Array.getElem?_modify, hb]
    obtain ⟨w', c', r1, r2, r3, r4, r5, r6, r7, r8, r9⟩ := ih (i + 1) o (w.setCell ⟨b, o + i, none⟩ v) (c.setIfInBounds (o + i) v) e fr hb1 (by simpa using hf) (fun x hx => h1 x (List.mem_cons_of_mem _ hx)) (by simp; omega)
    refine ⟨w', c', ?_, r2, r3, r4, by rw [r5]; simp [World.setCell], fun k hk => ?_, r7, ?_, by rw [r9]; simp⟩
    · simp only [storeCells, Sem.run_bind, addr_add, hst, Result.andThen_ok]
      exact r1
    · rw [r6 k hk, heap_setCell_other _ _ _ _ hk]
    · rw [r8]
      simp only [Array.toList_setIfInBounds, Exe.put, List.length_cons]
      apply List.ext_getElem?
      intro j
      have hl' : c.toList.length = c.size := by simp
      simp only [List.getElem?_append, List.getElem?_take, List.getElem?_drop, List.length_append, List.length_take, List.length_set, List.length_cons, hl', List.getElem?_set, List.getElem?_cons]
      have e1 : min (o + (i + 1)) c.size = o + (i + 1) := by omega
      have e2 : min (o + i) c.size = o + i := by omega
      simp only [e1, e2]
      by_cases h1 : j < o + i
      · have : ¬ (o + i = j) := by omega
        simp [h1, this, show j < o + (i + 1) + l.length by omega, show j < o + i + (l.length + 1) by omega, show j < o + (i + 1) by omega]
      · by_cases h2 : j = o + i
        · subst h2
          simp [show o + i < o + (i + 1) + l.length by omega, show o + i < o + (i + 1) by omega, hlt]
        · by_cases h3 : j < o + (i + 1) + l.length
          · have h4 : ¬ (j < o + (i + 1)) := by omega
            have h5 : ¬ (j - (o + i) = 0) := by omega
            simp [h1, h3, h4, h5, show j < o + i + (l.length + 1) by omega, show j - (o + (i + 1)) = j - (o + i) - 1 by omega]
          · simp [h3, show ¬ (j < o + i + (l.length + 1)) by omega, show ¬ (o + i = j) by omega]
            have e : o + (i + 1) + l.length + (j - (o + (i + 1) + l.length)) = o + i + (l.length + 1) + (j - (o + i + (l.length + 1))) := by omega
            rw [e]
            simp [show ¬ (o + i = o + i + (l.length + 1) + (j - (o + i + (l.length + 1)))) by omega]

theorem SR.congr {θ : Th} {B : Nat} {S : St} {w w' : World} (k : SR θ B S w) (h : w'.heap = w.heap) : SR θ B S w' :=
  ⟨⟨fun n o hn => by rw [h]; exact k.hr.obj n o hn, k.hr.inj⟩, k.next, k.syms, k.base, k.glob, by rw [h]; exact k.size⟩

theorem SR.blk {θ : Th} {B : Nat} {S : St} {w : World} (k : SR θ B S w) {n : Nat} {o : AObj} (hn : S.heap.get n = some o) : n < S.next ∧ ∃ b, θ.blk n = some b ∧ b < w.heap.size := by
  obtain ⟨b, ob, h1, h2, _⟩ := k.hr.obj n o hn
  refine ⟨?_, b, h1, ?_⟩
  · rcases Nat.lt_or_ge n S.next with h | h
    · exact h
    · rw [k.next n h] at h1; cases h1
  · rcases Nat.lt_or_ge b w.heap.size with h | h
    · exact h
    · rw [Array.getElem?_eq_none h] at h2; cases h2

theorem set_eq {S S' : St} {n : Nat} {o : Option AObj} (h : S.set n o = some S') : 64 ≤ n ∧ S'.next = S.next ∧ S'.syms = S.syms ∧ ∀ m, S'.heap.get m = if m = n then o else S.heap.get m := by
  unfold St.set at h
  split at h
  · rename_i hle
    rw [fO_eq fObj fObj_eq, Tr.putK_eq] at h
    simp only [Option.some.injEq] at h
    subst h
    exact ⟨Nat.le_of_ble_eq_true hle, rfl, rfl, fun m => Tr.get_put _ _ _ _ _ (Nat.lt_succ_self n)⟩
  · cases h

/-- An object is written anew. -/
theorem SR.set {θ : Th} {B : Nat} {S S' : St} {w w' : World} {n b : Nat} {o o' : AObj} {ob' : Obj} (k : SR θ B S w) (hs : S.set n (some o') = some S') (hn : S.heap.get n = some o) (hb : θ.blk n = some b)
    (hos : w'.os = w.os) (htape : w'.tape = w.tape) (hout : w'.output = w.output) (hsize : w'.heap.size = w.heap.size) (hother : ∀ k, k ≠ b → w'.heap[k]? = w.heap[k]?) (hnew : w'.heap[b]? = some ob') (hor : OR θ o' ob') (hl : Loose ob') :
    SR θ B S' w' ∧ Ext θ S w θ S' w' := by
  obtain ⟨h64, e1, e2, hg⟩ := set_eq hs
  have hlive : ∀ m, (S'.heap.get m ≠ none) ↔ (S.heap.get m ≠ none) := fun m => by
    rw [hg m]
    by_cases e : m = n
    · subst e; simp [hn]
    · rw [if_neg e]
  have hB : B ≤ b := by
    obtain ⟨b', ob, h1, _, _, h4⟩ := k.hr.obj n o hn
    rw [hb] at h1; cases h1
    exact (h4 h64).1
  refine ⟨⟨⟨fun m om hm => ?_, fun p q x h1 h2 h3 h4 h5 => ?_⟩, by rw [e1]; exact k.next, by rw [e2]; exact k.syms, by rw [e1]; exact k.base, k.glob, by rw [hsize]; exact k.size⟩,
    ⟨.refl _, hos, htape, hout, by omega, fun x hx hno => hother x fun e => ?_, fun m x h1 h2 h3 h4 => ⟨m, h1, (hlive m).1 h2, h3⟩, by omega, fun _ _ => rfl⟩⟩
  · rw [hg m] at hm
    by_cases e : m = n
    · subst e
      rw [if_pos rfl] at hm
      cases hm
      exact ⟨b, ob', hb, hnew, hor, fun _ => ⟨hB, hl⟩⟩
    · rw [if_neg e] at hm
      obtain ⟨b', ob, h1, h2, h3, h4⟩ := k.hr.obj m om hm
      refine ⟨b', ob, h1, ?_, h3, h4⟩
      rw [hother b' ?_]
      · exact h2
      · intro eb
        subst eb
        exact e (k.hr.inj n m b' h64 (by simp [hn]) (by simp [hm]) hb h1).symm
  · exact k.hr.inj p q x h1 ((hlive p).1 h2) ((hlive q).1 h3) h4 h5
  · exact hno n h64 (by simp [hn]) (e ▸ hb)

/-- An object less. -/
theorem SR.kill {θ : Th} {B : Nat} {S S' : St} {w : World} {n : Nat} (k : SR θ B S w) (hs : S.set n none = some S') : SR θ B S' w ∧ Ext θ S w θ S' w := by
  obtain ⟨h64, e1, e2, hg⟩ := set_eq hs
  have hlive : ∀ m, (S'.heap.get m ≠ none) → (S.heap.get m ≠ none) := fun m h => by
    rw [hg m] at h
    by_cases e : m = n
    · subst e; simp at h
    · rwa [if_neg e] at h
  refine ⟨⟨⟨fun m om hm => ?_, fun p q x h1 h2 h3 h4 h5 => k.hr.inj p q x h1 (hlive p h2) (hlive q h3) h4 h5⟩, by rw [e1]; exact k.next, by rw [e2]; exact k.syms, by rw [e1]; exact k.base, k.glob, k.size⟩,
    ⟨.refl _, rfl, rfl, rfl, Nat.le_refl _, fun _ _ _ => rfl, fun m x h1 h2 h3 h4 => ⟨m, h1, hlive m h2, h3⟩, by omega, fun _ _ => rfl⟩⟩
  rw [hg m] at hm
  by_cases e : m = n
  · subst e; simp at hm
  · rw [if_neg e] at hm
    exact k.hr.obj m om hm

/-- With a new name. -/
def Th.plus (θ : Th) (n b s : Nat) (y : Option Nat) : Th := ⟨fun m => if m = n then some b else θ.blk m, fun m => if m = s then y else θ.ext m⟩

theorem Th.plus_le {θ : Th} {n b s : Nat} {y : Option Nat} (h1 : θ.blk n = none) (h2 : θ.ext s = none) : θ.Le (θ.plus n b s y) :=
  ⟨fun m x h => by
    have : m ≠ n := fun e => by subst e; rw [h1] at h; cases h
    simp [Th.plus, this, h], fun m x h => by
    have : m ≠ s := fun e => by subst e; rw [h2] at h; cases h
    simp [Th.plus, this, h]⟩

/-- A new object. -/
theorem SR.plus {θ : Th} {B : Nat} {S : St} {w w' : World} {o : AObj} {ob : Obj} {y : Option Nat} {sy : Nat} (r : Nat) (k : SR θ B S w) (hsy : S.syms ≤ sy) (hy : ∀ s, sy ≤ s → s = S.syms → y = none)
    (hos : w'.os = w.os) (htape : w'.tape = w.tape) (hout : w'.output = w.output) (hheap : w'.heap = w.heap.push ob) (hor : OR (θ.plus S.next w.heap.size S.syms y) o ob) (hl : Loose ob) :
    let S' : St := ⟨Tr.put (Nat.succ S.next) S.heap S.next (some o), Nat.succ S.next, sy, r⟩
    SR (θ.plus S.next w.heap.size S.syms y) B S' w' ∧ Ext θ S w (θ.plus S.next w.heap.size S.syms y) S' w' := by
  intro S'
  have hle : θ.Le (θ.plus S.next w.heap.size S.syms y) := Th.plus_le (k.next _ (Nat.le_refl _)) (k.syms _ (Nat.le_refl _))
  have hg : ∀ m, S'.heap.get m = if m = S.next then some o else S.heap.get m := fun m => Tr.get_put _ _ _ _ _ (Nat.lt_succ_self _)
  have hold : ∀ x, x < w.heap.size → w'.heap[x]? = w.heap[x]? := fun x hx => by rw [hheap, Array.getElem?_push, if_neg (by omega)]
  have hlast : w'.heap[w.heap.size]? = some ob := by rw [hheap]; simp
  have hplus : ∀ m, (θ.plus S.next w.heap.size S.syms y).blk m = if m = S.next then some w.heap.size else θ.blk m := fun _ => rfl
  refine ⟨⟨⟨fun m om hm => ?_, fun p q x h1 h2 h3 h4 h5 => ?_⟩, fun m hm => ?_, fun s hs => ?_, Nat.le_succ_of_le k.base, fun g hgl => ?_, ?_⟩, ⟨hle, hos, htape, hout, by rw [hheap]; simp, fun x hx _ => hold x hx, fun m x h1 h2 h3 h4 => ?_, Nat.le_succ _, fun m hm => by rw [hplus, if_neg (by omega)]⟩⟩
  · rw [hg m] at hm
    by_cases e : m = S.next
    · subst e
      rw [if_pos rfl] at hm
      cases hm
      exact ⟨w.heap.size, ob, by simp [hplus], hlast, hor, fun _ => ⟨k.size, hl⟩⟩
    · rw [if_neg e] at hm
      obtain ⟨b, ob', h1, h2, h3, h4⟩ := k.hr.obj m om hm
      obtain ⟨_, b', h5, h6⟩ := k.blk hm
      rw [h1] at h5; cases h5
      exact ⟨b, ob', hle.blk _ _ h1, by rw [hold b h6]; exact h2, h3.mono hle, h4⟩
  · rw [hg p] at h2
    rw [hg q] at h3
    rw [hplus] at h4 h5
    have hbig : ∀ m, S.heap.get m ≠ none → θ.blk m ≠ some w.heap.size := fun m hm e => by
      cases ho : S.heap.get m with
      | none => exact hm ho
      | some om =>
        obtain ⟨_, b', h5, h6⟩ := k.blk ho
        rw [e] at h5; cases h5; omega
    by_cases ep : p = S.next <;> by_cases eq : q = S.next
    · rw [ep, eq]
    · rw [if_pos ep] at h4; rw [if_neg eq] at h5 h3
      cases h4
      exact (hbig q h3 h5).elim
    · rw [if_neg ep] at h4 h2; rw [if_pos eq] at h5
      cases h5
      exact (hbig p h2 h4).elim
    · rw [if_neg ep] at h4 h2; rw [if_neg eq] at h5 h3
      exact k.hr.inj p q x h1 h2 h3 h4 h5
  · have hm : S.next + 1 ≤ m := hm
    rw [hplus, if_neg (by omega)]
    exact k.next m (by omega)
  · show (if s = S.syms then y else θ.ext s) = none
    by_cases e : s = S.syms
    · rw [if_pos e]; exact hy s hs e
    · rw [if_neg e]; exact k.syms s (Nat.le_trans hsy hs)
  · exact hle.blk _ _ (k.glob g hgl)
  · rw [hheap]; have := k.size; simp; omega
  · rw [hg m] at h2
    rw [hplus] at h3
    by_cases e : m = S.next
    · rw [if_pos e] at h3; cases h3; omega
    · rw [if_neg e] at h3 h2; exact ⟨m, h1, h2, h3⟩

/-- A new name for an old block, the old name struck out. -/
theorem SR.renew {θ : Th} {B : Nat} {S S1 : St} {w w' : World} {n b : Nat} {o o' : AObj} {ob' : Obj} {y : Option Nat} {sy : Nat} (r : Nat) (k : SR θ B S w) (hs : S.set n none = some S1) (hn : S.heap.get n = some o) (hb : θ.blk n = some b)
    (hsy : S.syms ≤ sy) (hy : ∀ s, sy ≤ s → s = S.syms → y = none)
    (hos : w'.os = w.os) (htape : w'.tape = w.tape) (hout : w'.output = w.output) (hsize : w'.heap.size = w.heap.size) (hother : ∀ k, k ≠ b → w'.heap[k]? = w.heap[k]?) (hnew : w'.heap[b]? = some ob') (hor : OR (θ.plus S.next b S.syms y) o' ob') (hl : Loose ob') :
    let S' : St := ⟨Tr.put (Nat.succ S1.next) S1.heap S1.next (some o'), Nat.succ S1.next, sy, r⟩
    SR (θ.plus S.next b S.syms y) B S' w' ∧ Ext θ S w (θ.plus S.next b S.syms y) S' w' := by
  intro S'
  obtain ⟨h64, e1, e2, hg1⟩ := set_eq hs
  have hle : θ.Le (θ.plus S.next b S.syms y) := Th.plus_le (k.next _ (Nat.le_refl _)) (k.syms _ (Nat.le_refl _))
  have hnn : n ≠ S.next := fun e => by have := (k.blk hn).1; omega
  have hg : ∀ m, S'.heap.get m = if m = S.next then some o' else if m = n then none else S.heap.get m := fun m => by
    show (Tr.put (Nat.succ S1.next) S1.heap S1.next (some o')).get m = _
    rw [Tr.get_put _ _ _ _ _ (Nat.lt_succ_self _), e1, hg1 m]
  have hplus : ∀ m, (θ.plus S.next b S.syms y).blk m = if m = S.next then some b else θ.blk m := fun _ => rfl
  have hB : B ≤ b := by
    obtain ⟨b', ob, h1, _, _, h4⟩ := k.hr.obj n o hn
    rw [hb] at h1; cases h1
    exact (h4 h64).1
  have hapart : ∀ m, m ≠ n → S.heap.get m ≠ none → θ.blk m ≠ some b := fun m hm hl e => hm (k.hr.inj n m b h64 (by simp [hn]) hl hb e).symm
  refine ⟨⟨⟨fun m om hm => ?_, fun p q x h1 h2 h3 h4 h5 => ?_⟩, fun m hm => ?_, fun s hs => ?_, ?_, fun g hgl => hle.blk _ _ (k.glob g hgl), by rw [hsize]; exact k.size⟩, ⟨hle, hos, htape, hout, by omega, fun x hx hno => hother x fun e => hno n h64 (by simp [hn]) (e ▸ hb), fun m x h1 h2 h3 h4 => ?_, by show S.next ≤ S1.next + 1; omega, fun m hm => by rw [hplus, if_neg (by omega)]⟩⟩
  · rw [hg m] at hm
    by_cases e : m = S.next
    · subst e
      rw [if_pos rfl] at hm
      cases hm
      exact ⟨b, ob', by simp [hplus], hnew, hor, fun _ => ⟨hB, hl⟩⟩
    · rw [if_neg e] at hm
      by_cases en : m = n
      · rw [if_pos en] at hm; cases hm
      · rw [if_neg en] at hm
        obtain ⟨b', ob, h1, h2, h3, h4⟩ := k.hr.obj m om hm
        refine ⟨b', ob, hle.blk _ _ h1, ?_, h3.mono hle, h4⟩
        rw [hother b' fun eb => hapart m en (by simp [hm]) (eb ▸ h1)]
        exact h2
  · rw [hg p] at h2
    rw [hg q] at h3
    rw [hplus] at h4 h5
    by_cases ep : p = S.next <;> by_cases eq : q = S.next
    · rw [ep, eq]
    · rw [if_pos ep] at h4; rw [if_neg eq] at h5 h3
      cases h4
      by_cases en : q = n
      · rw [if_pos en] at h3; exact (h3 rfl).elim
      · rw [if_neg en] at h3; exact (hapart q en h3 h5).elim
    · rw [if_neg ep] at h4 h2; rw [if_pos eq] at h5
      cases h5
      by_cases en : p = n
      · rw [if_pos en] at h2; exact (h2 rfl).elim
      · rw [if_neg en] at h2; exact (hapart p en h2 h4).elim
    · rw [if_neg ep] at h4 h2; rw [if_neg eq] at h5 h3
      by_cases en : p = n
      · rw [if_pos en] at h2; exact (h2 rfl).elim
      · by_cases eqn : q = n
        · rw [if_pos eqn] at h3; exact (h3 rfl).elim
        · rw [if_neg en] at h2; rw [if_neg eqn] at h3
          exact k.hr.inj p q x h1 h2 h3 h4 h5
  · have hm : S1.next + 1 ≤ m := hm
    rw [hplus, if_neg (by omega)]
    exact k.next m (by omega)
  · show (if s = S.syms then y else θ.ext s) = none
    by_cases e : s = S.syms
    · rw [if_pos e]; exact hy s hs e
    · rw [if_neg e]; exact k.syms s (Nat.le_trans hsy hs)
  · show 64 ≤ S1.next + 1
    have := k.base; omega
  · rw [hg m] at h2
    rw [hplus] at h3
    by_cases e : m = S.next
    · rw [if_pos e] at h3; cases h3; exact ⟨n, h64, by simp [hn], hb⟩
    · rw [if_neg e] at h3 h2
      by_cases en : m = n
      · rw [if_pos en] at h2; exact (h2 rfl).elim
      · rw [if_neg en] at h2; exact ⟨m, h1, h2, h3⟩
end Go.Exe
