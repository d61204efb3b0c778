/- The executor: what a run stands on. -/
import Derived.Test.YtlngchhjdnalbaaGreatDoorExeRun
set_option linter.unusedVariables false
set_option linter.unusedSimpArgs false
namespace Go.Exe
open Go.RowKit

structure Ext0 (θ : Th) (S : St) (w : World) (θ' : Th) (S' : St) (w' : World) : Prop where
  le : θ.Le θ'
  os : w'.os = w.os
  tape : w'.tape = w.tape
  output : w'.output = w.output
  size : w.heap.size ≤ w'.heap.size
  keep : ∀ b, b < w.heap.size → (∀ n, 64 ≤ n → S.heap.get n ≠ none → θ.blk n ≠ some b) → w'.heap[b]? = w.heap[b]?
  own : ∀ n b, 64 ≤ n → S'.heap.get n ≠ none → θ'.blk n = some b → b < w.heap.size → ∃ m, 64 ≤ m ∧ S.heap.get m ≠ none ∧ θ.blk m = some b
  next : S.next ≤ S'.next

theorem Ext.to0 {θ θ' : Th} {S S' : St} {w w' : World} (h : Ext θ S w θ' S' w') : Ext0 θ S w θ' S' w' := ⟨h.le, h.os, h.tape, h.output, h.size, h.keep, h.own, h.next⟩
theorem Ext0.to {θ θ' : Th} {S S' : St} {w w' : World} (h : Ext0 θ S w θ' S' w') (ho : ∀ m, m < S.next → θ'.blk m = θ.blk m) : Ext θ S w θ' S' w' := ⟨h.le, h.os, h.tape, h.output, h.size, h.keep, h.own, h.next, ho⟩
theorem Ext0.refl (θ : Th) (S : St) (w : World) : Ext0 θ S w θ S w := (Ext.refl θ S w).to0
theorem Ext0.trans {θ θ' θ'' : Th} {S S' S'' : St} {w w' w'' : World} (a : Ext0 θ S w θ' S' w') (b : Ext0 θ' S' w' θ'' S'' w'') : Ext0 θ S w θ'' S'' w'' := by
  refine ⟨a.le.trans b.le, b.os.trans a.os, b.tape.trans a.tape, b.output.trans a.output, Nat.le_trans a.size b.size, fun k hk hn => ?_, fun n k h1 h2 h3 h4 => ?_, Nat.le_trans a.next b.next⟩
  · rw [b.keep k (Nat.lt_of_lt_of_le hk a.size) ?_, a.keep k hk hn]
    intro n h1 h2 h3
    obtain ⟨m, h4, h5, h6⟩ := a.own n k h1 h2 h3 hk
    exact hn m h4 h5 h6
  · obtain ⟨m, h5, h6, h7⟩ := b.own n k h1 h2 h3 (Nat.lt_of_lt_of_le h4 a.size)
    exact a.own m k h5 h6 h7 h4

def Th.at (θ : Th) (n b : Nat) : Th := ⟨fun m => if m = n then some b else θ.blk m, θ.ext⟩
theorem Th.at_le {θ : Th} {n b : Nat} (h : θ.blk n = none) : θ.Le (θ.at n b) :=
  ⟨fun m x hx => by
    have : m ≠ n := fun e => by subst e; rw [h] at hx; cases hx
    simp [Th.at, this, hx], fun _ _ h => h⟩

/-- A new object under a name that was kept for it. -/
theorem SR.plusAt {θ : Th} {B : Nat} {S : St} {w w' : World} {o : AObj} {ob : Obj} {n : Nat} (r : Nat) (k : SR θ B S w) (hn : θ.blk n = none) (h64 : 64 ≤ n) (hlt : n < S.next)
    (hos : w'.os = w.os) (htape : w'.tape = w.tape) (hout : w'.output = w.output) (hheap : w'.heap = w.heap.push ob) (hor : OR (θ.at n w.heap.size) o ob) (hl : Loose ob) :
    let S' : St := ⟨Tr.put (Nat.succ n) S.heap n (some o), S.next, S.syms, r⟩
    SR (θ.at n w.heap.size) B S' w' ∧ Ext0 θ S w (θ.at n w.heap.size) S' w' ∧ ∀ m, m ≠ n → (θ.at n w.heap.size).blk m = θ.blk m := by
  intro S'
  have hle : θ.Le (θ.at n w.heap.size) := Th.at_le hn
  have hg : ∀ m, S'.heap.get m = if m = n then some o else S.heap.get m := fun m => Tr.get_put _ _ _ _ _ (Nat.lt_succ_self _)
  have hold : ∀ x, x < w.heap.size → w'.heap[x]? = w.heap[x]? := fun x hx => by rw [hheap, Array.getElem?_push, if_neg (by omega)]
  have hlast : w'.heap[w.heap.size]? = some ob := by rw [hheap]; simp
  have hplus : ∀ m, (θ.at n w.heap.size).blk m = if m = n then some w.heap.size else θ.blk m := fun _ => rfl
  refine ⟨⟨⟨fun m om hm => ?_, fun p q x h1 h2 h3 h4 h5 => ?_⟩, fun m hm => ?_, k.syms, k.base, fun g hgl => hle.blk _ _ (k.glob g hgl), ?_⟩, ⟨hle, hos, htape, hout, by rw [hheap]; simp, fun x hx _ => hold x hx, fun m x h1 h2 h3 h4 => ?_, Nat.le_refl _⟩, fun m hm => by rw [hplus, if_neg hm]⟩
  · rw [hg m] at hm
    by_cases e : m = n
    · subst e
      rw [if_pos rfl] at hm
      cases hm
      exact ⟨w.heap.size, ob, by simp [hplus], hlast, hor, fun _ => ⟨k.size, hl⟩⟩
    · rw [if_neg e] at hm
      obtain ⟨b, ob', h1, h2, h3, h4⟩ := k.hr.obj m om hm
      obtain ⟨_, b', h5, h6⟩ := k.blk hm
      rw [h1] at h5; cases h5
      exact ⟨b, ob', hle.blk _ _ h1, by rw [hold b h6]; exact h2, h3.mono hle, h4⟩
  · rw [hg p] at h2
    rw [hg q] at h3
    rw [hplus] at h4 h5
    have hbig : ∀ m, S.heap.get m ≠ none → θ.blk m ≠ some w.heap.size := fun m hm e => by
      cases ho : S.heap.get m with
      | none => exact hm ho
      | some om =>
        obtain ⟨_, b', h5, h6⟩ := k.blk ho
        rw [e] at h5; cases h5; omega
    by_cases ep : p = n <;> by_cases eq : q = n
    · rw [ep, eq]
    · rw [if_pos ep] at h4; rw [if_neg eq] at h5 h3
      cases h4
      exact (hbig q h3 h5).elim
    · rw [if_neg ep] at h4 h2; rw [if_pos eq] at h5
      cases h5
      exact (hbig p h2 h4).elim
    · rw [if_neg ep] at h4 h2; rw [if_neg eq] at h5 h3
      exact k.hr.inj p q x h1 h2 h3 h4 h5
  · have hm : S.next ≤ m := hm
    rw [hplus, if_neg (by omega)]
    exact k.next m hm
  · rw [hheap]; have := k.size; simp; omega
  · rw [hg m] at h2
    rw [hplus] at h3
    by_cases e : m = n
    · rw [if_pos e] at h3; cases h3; omega
    · rw [if_neg e] at h3 h2; exact ⟨m, h1, h2, h3⟩

/-- Memory is made beside the state. -/
theorem SR.grow {θ : Th} {B : Nat} {S : St} {w w' : World} (k : SR θ B S w) (h : Below w.heap.size w w') : SR θ B S w' ∧ Ext θ S w θ S w' := by
  refine ⟨⟨⟨fun n o hn => ?_, k.hr.inj⟩, k.next, k.syms, k.base, k.glob, Nat.le_trans k.size h.size⟩, ⟨.refl _, h.os, h.tape, h.output, h.size, fun b hb _ => h.block b hb, fun n _ h1 h2 h3 _ => ⟨n, h1, h2, h3⟩, Nat.le_refl _, fun _ _ => rfl⟩⟩
  obtain ⟨b, ob, h1, h2, h3, h4⟩ := k.hr.obj n o hn
  obtain ⟨_, b', h5, h6⟩ := k.blk hn
  rw [h1] at h5; cases h5
  exact ⟨b, ob, h1, by rw [h.block b h6]; exact h2, h3, h4⟩

def DefOk (P : Program) (d : Deferred) : Prop :=
  ∃ fv cap f args, d.target = .fn fv cap ∧ (∀ w, (invoke d.target d.args).run P w = .ok (.enter f args) w) ∧
    ∀ w, CallsD P f args .returning w (fun e u w' => (∃ v, e = .returned v) ∧ u = .returning ∧ Below w.heap.size w w')

def DefsOk (P : Program) (a : Act) : Prop := ∀ d ∈ a.defers, DefOk P d

theorem DefsOk.put {P : Program} {a : Act} (h : DefsOk P a) (d : Option Tmp) (v : Value) : DefsOk P (a.put d v) := by cases d <;> exact h

structure EnvOk (P : Program) (E : Env) : Prop where
  ty : TyOk P E.ty
  fn : ∀ f fn, E.fn.get f = some fn → P.funcs[f]? = some fn ∧ ∀ args w, (callFunc f args).run P w = .ok (.enter f args) w
  known : ∀ f args h v, E.known f args h = some (some v) → (∀ args w, (callFunc f args).run P w = .ok (.enter f args) w) ∧
    ∀ θ B S args' w, S.heap = h → SR θ B S w → VRs θ args args' → Calls P f args'.toArray w (fun e w' => ∃ v', e = .returned v' ∧ VR θ v v' ∧ Below w.heap.size w w')
  idle : ∀ f n, E.idle f = some n → ∀ args : Array Value, args.size = n → (∀ w, (callFunc f args).run P w = .ok (.enter f args) w) ∧
    ∀ w, CallsD P f args .returning w (fun e u w' => (∃ v, e = .returned v) ∧ u = .returning ∧ Below w.heap.size w w')
  mixed : P.follows .mixedOrders = true

theorem wanted_sound {θ : Th} {nt : Nat} {T : Tr AV} {a : Act} (tr : TR θ nt T a) (all : List Oper) (o : Oper) : wantedA all T o.guard = Region.wanted o (yielded all.toArray a.tmps) := by
  unfold wantedA Region.wanted
  cases hg : o.guard with
  | none => rfl
  | some g =>
    obtain ⟨j, want⟩ := g
    simp only [yielded, List.getElem?_toArray, listGet_eq]
    cases all[j]? with
    | none => simp
    | some o' =>
      simp only [Option.bind_some]
      cases o'.dst with
      | none => simp
      | some d =>
        simp only [Option.bind_some]
        have h := tr.get d
        rw [Array.getD_eq_getD_getElem?] at h
        cases hT : T.get d with
        | none =>
          rw [hT] at h
          simp only [Option.getD_none, undefA] at h
          generalize hx : (a.tmps[d]?).getD Go.undef = x at h
          cases h
          rename_i cs hc
          cases ha : a.tmps[d]? with
          | none => simp
          | some y =>
            rw [ha] at hx
            simp only [Option.getD_some] at hx
            subst hx
            simp
        | some v =>
          rw [hT] at h
          simp only [Option.getD_some] at h
          cases ha : a.tmps[d]? with
          | none =>
            rw [ha] at h
            simp only [Option.getD_none, Go.undef] at h
            cases v <;> first | (cases h; done) | (simp; done) | (cases h; simp)
          | some y =>
            rw [ha] at h
            simp only [Option.getD_some] at h
            cases h <;> simp [Bool.beq_eq_decide_eq]

theorem callee_sound {P : Program} {θ : Th} {nt : Nat} {T : Tr AV} {a : Act} (tr : TR θ nt T a) (hg : ∀ g, g < 64 → θ.blk g = some g) {c : Call} {f : FuncId} {args : List AV} (h : calleeA T c = some (f, args)) :
    ∃ args' d, VRs θ args args' ∧ (∀ type, resolve a.eval c type = pure d) ∧ (∃ fv cap, d.target = .fn fv cap) ∧ invoke d.target d.args = callFunc f args'.toArray := by
  unfold calleeA at h
  split at h
  · rename_i x hc
    split at h
    · rename_i g first captured l hx hl
      simp only [Option.some.injEq, Prod.mk.injEq] at h
      obtain ⟨rfl, rfl⟩ := h
      have h1 := ev_sound tr hg hx
      have h2 := evs_sound tr hg _ _ hl
      generalize hxe : a.eval x = x' at h1
      cases h1
      rename_i f' c' hf hcp
      have e3 : (c.args.toList.map a.eval).toArray = c.args.map a.eval := by apply Array.ext'; simp
      refine ⟨f' ++ c.args.toList.map a.eval ++ c', { target := .fn (.func g) c'.toArray, args := f'.toArray ++ c.args.map a.eval }, (hf.append h2).append hcp, fun type => ?_, ⟨_, _, rfl⟩, ?_⟩
      · simp only [resolve, hc, hxe, Deferred.ofValue]
      · simp only [invoke]
        congr 1
        apply Array.ext'
        simp
    · cases h
  · cases h

/-- The results. -/
theorem res_sound {P : Program} {ty : Tr TI} (hty : TyOk P ty) {θ : Th} {B : Nat} {S : St} {w : World} (k : SR θ B S w) {nt : Nat} {T : Tr AV} {a : Act} (tr : TR θ nt T a) : ∀ (rs : List ResultVar) (vs : List AV), resA ty S.heap T rs = some vs →
    ∃ vs', (rs.mapM (fun
      | .tmp t => pure (a.tmps.getD t undef)
      | .cell x t => do loadVar t (← asAddr (a.tmps.getD x undef)) : ResultVar → Sem Value)).run P w = .ok vs' w ∧ VRs θ vs vs'
  | [], vs, h => by simp only [resA, Option.some.injEq] at h; subst h; exact ⟨[], by simp, .nil⟩
  | .tmp t :: rs, vs, h => by
    simp only [resA] at h
    split at h
    · rename_i v hv
      split at h
      · rename_i l hl
        simp only [Option.some.injEq] at h
        subst h
        obtain ⟨vs', h1, h2⟩ := res_sound hty k tr rs l hl
        have h3 := tr.get t
        rw [hv] at h3
        refine ⟨a.tmps.getD t undef :: vs', ?_, .cons _ _ _ _ h3 h2⟩
        rw [List.mapM_cons]
        simp only [Sem.run_bind, Sem.run_pure, Result.andThen_ok, h1]
      · cases h
    · cases h
  | .cell x t :: rs, vs, h => by
    simp only [resA] at h
    split at h
    · rename_i n off ti hx hti
      split at h
      · rename_i cs e mo hn
        split at h
        · rename_i v hv
          split at h
          · rename_i l hl
            simp only [Option.some.injEq] at h
            subst h
            obtain ⟨vs', h1, h2⟩ := res_sound hty k tr rs l hl
            have h3 := tr.get x
            rw [hx] at h3
            simp only [Option.getD_some] at h3
            generalize hxe : a.tmps.getD x undef = x' at h3
            cases h3
            rename_i b hb
            obtain ⟨v', h4, h5⟩ := loadVar_sound (hty _ _ hti) k.hr hn hb hv
            refine ⟨v' :: vs', ?_, .cons _ _ _ _ h5 h2⟩
            rw [List.mapM_cons]
            have e : (asAddr (.pointer (some ⟨b, off, none⟩))).run P w = .ok ⟨b, off, none⟩ w := rfl
            simp only [Sem.run_bind, Sem.run_pure, Result.andThen_ok, h1, hxe, e, h4]
          · cases h
        · cases h
      · cases h
    · cases h

theorem results_sound {P : Program} {ty : Tr TI} (hty : TyOk P ty) {θ : Th} {B : Nat} {S : St} {w : World} (k : SR θ B S w) {nt : Nat} {T : Tr AV} {a : Act} (tr : TR θ nt T a) {fn : Func} {vs : List AV} (h : resA ty S.heap T fn.results.toList = some vs) :
    ∃ v', (results fn a.tmps).run P w = .ok v' w ∧ VR θ (oneA vs) v' := by
  obtain ⟨vs', h1, h2⟩ := res_sound hty k tr _ _ h
  refine ⟨if h : vs'.toArray.size = 1 then vs'.toArray[0] else .tuple vs'.toArray, ?_, ?_⟩
  · unfold results
    simp only [Sem.run_bind, Sem.run_pure]
    rw [Array.mapM_eq_mapM_toList]
    simp only [Sem.run_map]
    refine Eq.trans (congrArg (fun r => Result.andThen (Result.andThen r _) _) h1) rfl
  · cases h2 with
    | nil => exact VR.tuple [] [] .nil
    | cons v v' vs vs' hv ht =>
      cases ht with
      | nil => exact hv
      | cons u u' us us' hu ht => exact VR.tuple _ _ (.cons _ _ _ _ hv (.cons _ _ _ _ hu ht))
end Go.Exe
