/- The executor: how its state stands for the program's. -/
import Derived.Test.YtlngchhjdnalbaaGreatDoorExeRel
import Derived.Laws.Sem
import Derived.Laws.Cells
import Derived.Laws.Rows
set_option linter.unusedVariables false
set_option linter.unusedSimpArgs false
namespace Go.Exe
open Go.RowKit

inductive ERs (θ : Th) : List (AV × AV × Nat) → List MapEntry → Prop where
  | nil : ERs θ [] []
  | cons (k v : AV) (n : Nat) (k' v' : Value) (es : List (AV × AV × Nat)) (es' : List MapEntry) : VR θ k k' → VR θ v v' → ERs θ es es' → ERs θ ((k, v, n) :: es) (⟨k', v', n⟩ :: es')

theorem ERs.mono {θ θ' : Th} (h : θ.Le θ') : ∀ {l : List (AV × AV × Nat)} {l' : List MapEntry}, ERs θ l l' → ERs θ' l l'
  | _, _, .nil => .nil
  | _, _, .cons _ _ _ _ _ _ _ h1 h2 h3 => .cons _ _ _ _ _ _ _ (h1.mono h) (h2.mono h) (h3.mono h)

theorem ERs.length {θ : Th} : ∀ {l : List (AV × AV × Nat)} {l' : List MapEntry}, ERs θ l l' → l'.length = l.length
  | _, _, .nil => rfl
  | _, _, .cons _ _ _ _ _ _ _ _ _ h => by simp [h.length]

theorem ERs.append {θ : Th} : ∀ {l : List (AV × AV × Nat)} {l' : List MapEntry} {m : List (AV × AV × Nat)} {m' : List MapEntry}, ERs θ l l' → ERs θ m m' → ERs θ (l ++ m) (l' ++ m')
  | _, _, _, _, .nil, h => h
  | _, _, _, _, .cons _ _ _ _ _ _ _ h1 h2 h3, h => .cons _ _ _ _ _ _ _ h1 h2 (h3.append h)

/-- No cell of it is shared with a string. -/
def Loose : Obj → Prop
  | .cells c _ (lo, hi) => lo = hi ∨ c.size ≤ lo
  | _ => True

def OR (θ : Th) : AObj → Obj → Prop
  | .cells cs e m, .cells c e' _ => e' = e ∧ ∃ pre rest, c.toList = pre ++ rest ∧ VRs θ cs pre ∧ ∀ s z, m = some (s, z) → ∃ x, θ.ext s = some x ∧ rest.length = x * z
  | .map es k, .map es' k' => k' = k ∧ ERs θ es es'.toList
  | _, _ => False

theorem OR.mono {θ θ' : Th} (h : θ.Le θ') {o : AObj} {o' : Obj} (k : OR θ o o') : OR θ' o o' := by
  cases o <;> cases o' <;> simp only [OR] at k ⊢
  · obtain ⟨h1, pre, rest, h2, h3, h4⟩ := k; exact ⟨h1, pre, rest, h2, h3.mono h, fun s z e => let ⟨x, h5, h6⟩ := h4 s z e; ⟨x, h.ext _ _ h5, h6⟩⟩
  · exact ⟨k.1, k.2.mono h⟩

structure HR (θ : Th) (B : Nat) (h : Nat → Option AObj) (w : World) : Prop where
  obj : ∀ n o, h n = some o → ∃ b ob, θ.blk n = some b ∧ w.heap[b]? = some ob ∧ OR θ o ob ∧ (64 ≤ n → B ≤ b ∧ Loose ob)
  inj : ∀ n m b, 64 ≤ n → h n ≠ none → h m ≠ none → θ.blk n = some b → θ.blk m = some b → n = m

structure SR (θ : Th) (B : Nat) (S : St) (w : World) : Prop where
  hr : HR θ B S.heap.get w
  next : ∀ n, S.next ≤ n → θ.blk n = none
  syms : ∀ n, S.syms ≤ n → θ.ext n = none
  base : 64 ≤ S.next
  glob : ∀ g, g < 64 → θ.blk g = some g
  size : B ≤ w.heap.size

/-- What is under way leaves alone all that the state does not own. -/
structure Ext (θ : Th) (S : St) (w : World) (θ' : Th) (S' : St) (w' : World) : Prop where
  le : θ.Le θ'
  os : w'.os = w.os
  tape : w'.tape = w.tape
  output : w'.output = w.output
  size : w.heap.size ≤ w'.heap.size
  keep : ∀ b, b < w.heap.size → (∀ n, 64 ≤ n → S.heap.get n ≠ none → θ.blk n ≠ some b) → w'.heap[b]? = w.heap[b]?
  own : ∀ n b, 64 ≤ n → S'.heap.get n ≠ none → θ'.blk n = some b → b < w.heap.size → ∃ m, 64 ≤ m ∧ S.heap.get m ≠ none ∧ θ.blk m = some b
  next : S.next ≤ S'.next
  old : ∀ m, m < S.next → θ'.blk m = θ.blk m

theorem Ext.refl (θ : Th) (S : St) (w : World) : Ext θ S w θ S w :=
  ⟨.refl _, rfl, rfl, rfl, Nat.le_refl _, fun _ _ _ => rfl, fun n _ h1 h2 h3 _ => ⟨n, h1, h2, h3⟩, Nat.le_refl _, fun _ _ => rfl⟩

theorem Ext.trans {θ θ' θ'' : Th} {S S' S'' : St} {w w' w'' : World} (a : Ext θ S w θ' S' w') (b : Ext θ' S' w' θ'' S'' w'') : Ext θ S w θ'' S'' w'' := by
  refine ⟨a.le.trans b.le, b.os.trans a.os, b.tape.trans a.tape, b.output.trans a.output, Nat.le_trans a.size b.size, fun k hk hn => ?_, fun n k h1 h2 h3 h4 => ?_, Nat.le_trans a.next b.next, fun m hm => (b.old m (Nat.lt_of_lt_of_le hm a.next)).trans (a.old m hm)⟩
  · rw [b.keep k (Nat.lt_of_lt_of_le hk a.size) ?_, a.keep k hk hn]
    intro n h1 h2 h3
    obtain ⟨m, h4, h5, h6⟩ := a.own n k h1 h2 h3 hk
    exact hn m h4 h5 h6
  · obtain ⟨m, h5, h6, h7⟩ := b.own n k h1 h2 h3 (Nat.lt_of_lt_of_le h4 a.size)
    exact a.own m k h5 h6 h7 h4

theorem Ext.below {θ θ' : Th} {S S' : St} {w w' : World} {B : Nat} (a : Ext θ S w θ' S' w') (hr : SR θ B S w) : Below B w w' :=
  ⟨a.os, a.tape, a.output, a.size, fun k hk => a.keep k (Nat.lt_of_lt_of_le hk hr.size) fun n h1 h2 h3 => by
    cases ho : S.heap.get n with
    | none => exact h2 ho
    | some o =>
      obtain ⟨b, ob, hb, _, _, h4⟩ := hr.hr.obj n o ho
      have := (h4 h1).1
      rw [h3] at hb
      cases hb
      omega⟩

/-- The frame's slots. -/
structure TR (θ : Th) (nt : Nat) (T : Tr AV) (a : Act) : Prop where
  get : ∀ t, VR θ ((T.get t).getD undefA) (a.tmps.getD t undef)
  size : nt ≤ a.tmps.size

theorem VR.undef {θ : Th} : VR θ undefA Go.undef := VR.tuple [] [] .nil

theorem TR.mono {θ θ' : Th} {nt : Nat} {T : Tr AV} {a : Act} (h : θ.Le θ') (k : TR θ nt T a) : TR θ' nt T a := ⟨fun t => (k.get t).mono h, k.size⟩

theorem putT_eq {q : Bool} {nt : Nat} {T T' : Tr AV} {d : Option Tmp} {v : AV} (h : putT q nt T d v = some T') :
    (d = none ∧ T' = T) ∨ ∃ t, d = some t ∧ t < nt ∧ ∀ m, T'.get m = if m = t then some v else T.get m := by
  cases d with
  | none => simp only [putT, Option.some.injEq] at h; exact .inl ⟨rfl, h.symm⟩
  | some t =>
    simp only [putT] at h
    split at h
    · rename_i hle
      rw [fX_eq, Tr.putK_eq] at h
      simp only [Option.some.injEq] at h
      subst h
      exact .inr ⟨t, rfl, Nat.le_of_ble_eq_true hle, fun m => Tr.get_put _ _ _ _ _ (Nat.lt_succ_self t)⟩
    · cases h

theorem TR.put {q : Bool} {θ : Th} {nt : Nat} {T T' : Tr AV} {a : Act} {d : Option Tmp} {v : AV} {v' : Value} (k : TR θ nt T a) (h : putT q nt T d v = some T') (hv : VR θ v v') : TR θ nt T' (a.put d v') := by
  rcases putT_eq h with ⟨rfl, rfl⟩ | ⟨t, rfl, ht, hg⟩
  · exact k
  · refine ⟨fun m => ?_, by simpa [Act.put] using k.size⟩
    rw [hg m]
    have := k.size
    by_cases e : m = t
    · subst e
      simp only [if_pos]
      have : (a.put (some m) v').tmps.getD m Go.undef = v' := by
        simp only [Act.put, Array.getD_eq_getD_getElem?, Array.getElem?_setIfInBounds]
        simp; rw [if_pos (Nat.lt_of_lt_of_le ht k.size)]; rfl
      rw [this]
      exact hv
    · rw [if_neg e]
      have : (a.put (some t) v').tmps.getD m Go.undef = a.tmps.getD m Go.undef := by
        simp only [Act.put, Array.getD_eq_getD_getElem?, Array.getElem?_setIfInBounds]
        rw [if_neg (fun h => e h.symm)]
      rw [this]
      exact k.get m

theorem ev_sound {θ : Th} {nt : Nat} {T : Tr AV} {a : Act} {o : Operand} {v : AV} (k : TR θ nt T a) (hg : ∀ g, g < 64 → θ.blk g = some g) (h : ev T o = some v) : VR θ v (a.eval o) := by
  cases o with
  | tmp t =>
    have := k.get t
    simp only [ev] at h
    split at h
    · rename_i x hx
      simp only [Option.some.injEq] at h
      subst h
      rw [hx] at this
      exact this
    · rename_i hx
      simp only [Option.some.injEq] at h
      subst h
      rw [hx] at this
      exact this
  | const v => exact absV_sound _ _ _ h
  | global g =>
    simp only [ev] at h
    split at h
    · cases h
    · rename_i hle
      simp only [Option.some.injEq] at h
      subst h
      exact .ptr _ _ _ (hg g (by
        rcases Nat.lt_or_ge g 64 with h | h
        · exact h
        · rw [Nat.ble_eq_true_of_le h] at hle; cases hle))
  | func f => simp only [ev, Option.some.injEq] at h; subst h; exact .func _ _ _ [] [] .nil .nil

theorem evs_sound {θ : Th} {nt : Nat} {T : Tr AV} {a : Act} (k : TR θ nt T a) (hg : ∀ g, g < 64 → θ.blk g = some g) : ∀ (os : List Operand) (l : List AV), evs T os = some l → VRs θ l (os.map a.eval)
  | [], l, h => by simp only [evs, Option.some.injEq] at h; subst h; exact .nil
  | o :: os, l, h => by
    simp only [evs] at h
    split at h
    · cases h
    · rename_i x hx
      split at h
      · rename_i l' hl
        simp only [Option.some.injEq] at h
        subst h
        exact .cons _ _ _ _ (ev_sound k hg hx) (evs_sound k hg os l' hl)
      · cases h

/-! ### The heap -/
theorem HR.cell {θ : Th} {B : Nat} {h : Nat → Option AObj} {w : World} (k : HR θ B h w) {n b : Nat} {cs : List AV} {e : TypeId} {m : Option (Nat × Nat)} (hn : h n = some (.cells cs e m)) (hb : θ.blk n = some b) :
    ∃ c fr pre rest, w.heap[b]? = some (.cells c e fr) ∧ c.toList = pre ++ rest ∧ VRs θ cs pre ∧ (64 ≤ n → B ≤ b ∧ (fr.1 = fr.2 ∨ c.size ≤ fr.1)) ∧ ∀ s z, m = some (s, z) → ∃ x, θ.ext s = some x ∧ rest.length = x * z := by
  obtain ⟨b', ob, h1, h2, h3, h4⟩ := k.obj n _ hn
  rw [hb] at h1
  cases h1
  cases ob <;> simp only [OR] at h3
  rename_i c e' fr
  obtain ⟨rfl, pre, rest, h5, h6, h7⟩ := h3
  obtain ⟨lo, hi⟩ := fr
  exact ⟨c, (lo, hi), pre, rest, h2, h5, h6, fun h => ⟨(h4 h).1, (h4 h).2⟩, h7⟩

theorem addr_add (b o j : Nat) : Addr.add ⟨b, o, none⟩ j = ⟨b, o + j, none⟩ := by
  unfold Addr.add
  split
  · rename_i h; subst h; rfl
  · rfl

/-- A list of cells as it reads. -/
theorem cells_at {w : World} {b : Nat} {c : Array Value} {e : TypeId} {fr : Nat × Nat} (hb : w.heap[b]? = some (.cells c e fr)) (o : Nat) (l : List Value) (hl : l = (c.toList.drop o).take l.length) (P : Program) :
    (loadCells ⟨b, o, none⟩ l.length).run P w = .ok l.toArray w := by
  refine run_loadCells_list w ⟨b, o, none⟩ l ?_
  intro j v hj
  rw [addr_add, cell_of_row w b (o + j) c e fr hb]
  rw [hl] at hj
  rw [List.getElem?_take] at hj
  split at hj
  · rw [List.getElem?_drop] at hj; simpa using hj
  · cases hj
end Go.Exe
