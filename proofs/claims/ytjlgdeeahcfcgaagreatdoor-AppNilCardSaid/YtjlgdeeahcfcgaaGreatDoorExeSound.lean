/- The executor: what a run stands on. The executor: a run that goes through tells what the program does. The executor: the theorem. The executor: its tables, checked entry by entry. -/
import Derived.Test.YtjlgdeeahcfcgaaGreatDoorExeEq
import Derived.LoopN
set_option linter.unusedVariables false
set_option linter.unusedSimpArgs false
namespace Go.Exe
set_option linter.unusedSectionVars false
variable [Opn]
open Go.RowKit

structure Ext0 (θ : Th) (S : St) (w : World) (θ' : Th) (S' : St) (w' : World) : Prop where
  le : θ.Le θ'
  os : w'.os = w.os
  tape : w'.tape = w.tape
  output : w'.output = w.output
  size : w.heap.size ≤ w'.heap.size
  keep : ∀ b, b < w.heap.size → (∀ n, 64 ≤ n → S.heap.get n ≠ none → θ.blk n ≠ some b) → w'.heap[b]? = w.heap[b]?
  own : ∀ n b, 64 ≤ n → S'.heap.get n ≠ none → θ'.blk n = some b → b < w.heap.size → ∃ m, 64 ≤ m ∧ S.heap.get m ≠ none ∧ θ.blk m = some b
  next : S.next ≤ S'.next

theorem Ext.to0 {θ θ' : Th} {S S' : St} {w w' : World} (h : Ext θ S w θ' S' w') : Ext0 θ S w θ' S' w' := ⟨h.le, h.os, h.tape, h.output, h.size, h.keep, h.own, h.next⟩
theorem Ext0.to {θ θ' : Th} {S S' : St} {w w' : World} (h : Ext0 θ S w θ' S' w') (ho : ∀ m, m < S.next → θ'.blk m = θ.blk m) : Ext θ S w θ' S' w' := ⟨h.le, h.os, h.tape, h.output, h.size, h.keep, h.own, h.next, ho⟩
theorem Ext0.refl (θ : Th) (S : St) (w : World) : Ext0 θ S w θ S w := (Ext.refl θ S w).to0
theorem Ext0.trans {θ θ' θ'' : Th} {S S' S'' : St} {w w' w'' : World} (a : Ext0 θ S w θ' S' w') (b : Ext0 θ' S' w' θ'' S'' w'') : Ext0 θ S w θ'' S'' w'' := by
  refine ⟨a.le.trans b.le, b.os.trans a.os, b.tape.trans a.tape, b.output.trans a.output, Nat.le_trans a.size b.size, fun k hk hn => ?_, fun n k h1 h2 h3 h4 => ?_, Nat.le_trans a.next b.next⟩
  · rw [b.keep k (Nat.lt_of_lt_of_le hk a.size) ?_, a.keep k hk hn]
    intro n h1 h2 h3
    obtain ⟨m, h4, h5, h6⟩ := a.own n k h1 h2 h3 hk
    exact hn m h4 h5 h6
  · obtain ⟨m, h5, h6, h7⟩ := b.own n k h1 h2 h3 (Nat.lt_of_lt_of_le h4 a.size)
    exact a.own m k h5 h6 h7 h4

def Th.at (θ : Th) (n b : Nat) : Th := ⟨fun m => if m = n then some b else θ.blk m, θ.ext⟩
theorem Th.at_le {θ : Th} {n b : Nat} (h : θ.blk n = none) : θ.Le (θ.at n b) :=
  ⟨fun m x hx => by
    have : m ≠ n := fun e => by subst e; rw [h] at hx; cases hx
    simp [Th.at, this, hx], fun _ _ h => h⟩

/-- A new object under a name that was kept for it. -/
theorem SR.plusAt {θ : Th} {B : Nat} {S : St} {w w' : World} {o : AObj} {ob : Obj} {n : Nat} (r : Nat) (k : SR θ B S w) (hn : θ.blk n = none) (h64 : 64 ≤ n) (hlt : n < S.next)
    (hos : w'.os = w.os) (htape : w'.tape = w.tape) (hout : w'.output = w.output) (hheap : w'.heap = w.heap.push ob) (hor : OR (θ.at n w.heap.size) o ob) (hl : Loose ob) :
    let S' : St := ⟨Tr.put (Nat.succ n) S.heap n (some o), S.next, S.syms, r⟩
    SR (θ.at n w.heap.size) B S' w' ∧ Ext0 θ S w (θ.at n w.heap.size) S' w' ∧ ∀ m, m ≠ n → (θ.at n w.heap.size).blk m = θ.blk m := by
  intro S'
  have hle : θ.Le (θ.at n w.heap.size) := Th.at_le hn
  have hg : ∀ m, S'.heap.get m = if m = n then some o else S.heap.get m := fun m => Tr.get_put _ _ _ _ _ (Nat.lt_succ_self _)
  have hold : ∀ x, x < w.heap.size → w'.heap[x]? = w.heap[x]? := fun x hx => by rw [hheap, Array.getElem?_push, if_neg (by omega)]
  have hlast : w'.heap[w.heap.size]? = some ob := by rw [hheap]; simp
  have hplus : ∀ m, (θ.at n w.heap.size).blk m = if m = n then some w.heap.size else θ.blk m := fun _ => rfl
  refine ⟨⟨⟨fun m om hm => ?_, fun p q x h1 h2 h3 h4 h5 => ?_⟩, fun m hm => ?_, k.syms, k.base, fun g hgl => hle.blk _ _ (k.glob g hgl), ?_⟩, ⟨hle, hos, htape, hout, by rw [hheap]; simp, fun x hx _ => hold x hx, fun m x h1 h2 h3 h4 => ?_, Nat.le_refl _⟩, fun m hm => by rw [hplus, if_neg hm]⟩
  · rw [hg m] at hm
    by_cases e : m = n
    · subst e
      rw [if_pos rfl] at hm
      cases hm
      exact ⟨w.heap.size, ob, by simp [hplus], hlast, hor, fun _ => ⟨k.size, hl.o _⟩⟩
    · rw [if_neg e] at hm
      obtain ⟨b, ob', h1, h2, h3, h4⟩ := k.hr.obj m om hm
      obtain ⟨_, b', h5, h6⟩ := k.blk hm
      rw [h1] at h5; cases h5
      exact ⟨b, ob', hle.blk _ _ h1, by rw [hold b h6]; exact h2, h3.mono hle, h4⟩
  · rw [hg p] at h2
    rw [hg q] at h3
    rw [hplus] at h4 h5
    have hbig : ∀ m, S.heap.get m ≠ none → θ.blk m ≠ some w.heap.size := fun m hm e => by
      cases ho : S.heap.get m with
      | none => exact hm ho
      | some om =>
        obtain ⟨_, b', h5, h6⟩ := k.blk ho
        rw [e] at h5; cases h5; omega
    by_cases ep : p = n <;> by_cases eq : q = n
    · rw [ep, eq]
    · rw [if_pos ep] at h4; rw [if_neg eq] at h5 h3
      cases h4
      exact (hbig q h3 h5).elim
    · rw [if_neg ep] at h4 h2; rw [if_pos eq] at h5
      cases h5
      exact (hbig p h2 h4).elim
    · rw [if_neg ep] at h4 h2; rw [if_neg eq] at h5 h3
      exact k.hr.inj p q x h1 h2 h3 h4 h5
  · have hm : S.next ≤ m := hm
    rw [hplus, if_neg (by omega)]
    exact k.next m hm
  · rw [hheap]; have := k.size; simp; omega
  · rw [hg m] at h2
    rw [hplus] at h3
    by_cases e : m = n
    · rw [if_pos e] at h3; cases h3; omega
    · rw [if_neg e] at h3 h2; exact ⟨m, h1, h2, h3⟩

/-- Memory is made beside the state. -/
theorem SR.grow {θ : Th} {B : Nat} {S : St} {w w' : World} (k : SR θ B S w) (h : Below w.heap.size w w') : SR θ B S w' ∧ Ext θ S w θ S w' := by
  refine ⟨⟨⟨fun n o hn => ?_, k.hr.inj⟩, k.next, k.syms, k.base, k.glob, Nat.le_trans k.size h.size⟩, ⟨.refl _, h.os, h.tape, h.output, h.size, fun b hb _ => h.block b hb, fun n _ h1 h2 h3 _ => ⟨n, h1, h2, h3⟩, Nat.le_refl _, fun _ _ => rfl⟩⟩
  obtain ⟨b, ob, h1, h2, h3, h4⟩ := k.hr.obj n o hn
  obtain ⟨_, b', h5, h6⟩ := k.blk hn
  rw [h1] at h5; cases h5
  exact ⟨b, ob, h1, by rw [h.block b h6]; exact h2, h3, h4⟩

def DefOk (P : Program) (d : Deferred) : Prop :=
  ∃ fv cap f args, d.target = .fn fv cap ∧ (∀ w, (invoke d.target d.args).run P w = .ok (.enter f args) w) ∧
    ∀ w, CallsD P f args .returning w (fun e u w' => (∃ v, e = .returned v) ∧ u = .returning ∧ Below w.heap.size w w')

def DefsOk (P : Program) (a : Act) : Prop := ∀ d ∈ a.defers, DefOk P d

theorem DefsOk.put {P : Program} {a : Act} (h : DefsOk P a) (d : Option Tmp) (v : Value) : DefsOk P (a.put d v) := by cases d <;> exact h

structure EnvOk (P : Program) (E : Env) : Prop where
  ty : TyOk P E.ty
  fn : ∀ f fn, E.fn.get f = some fn → P.funcs[f]? = some fn ∧ ∀ args w, (callFunc f args).run P w = .ok (.enter f args) w
  known : ∀ f args h v, E.known f args h = some (some v) → (∀ args w, (callFunc f args).run P w = .ok (.enter f args) w) ∧
    ∀ θ B S args' w, S.heap = h → SR θ B S w → VRs θ args args' → Calls P f args'.toArray w (fun e w' => ∃ v', e = .returned v' ∧ VR θ v v' ∧ Below w.heap.size w w')
  idle : ∀ f n, E.idle f = some n → ∀ args : Array Value, args.size = n → (∀ w, (callFunc f args).run P w = .ok (.enter f args) w) ∧
    ∀ w, CallsD P f args .returning w (fun e u w' => (∃ v, e = .returned v) ∧ u = .returning ∧ Below w.heap.size w w')
  mixed : P.follows .mixedOrders = true

theorem wanted_sound {θ : Th} {nt : Nat} {T : Tr AV} {a : Act} (tr : TR θ nt T a) (all : List Oper) (o : Oper) : wantedA all T o.guard = Region.wanted o (yielded all.toArray a.tmps) := by
  unfold wantedA Region.wanted
  cases hg : o.guard with
  | none => rfl
  | some g =>
    obtain ⟨j, want⟩ := g
    simp only [yielded, List.getElem?_toArray, listGet_eq]
    cases all[j]? with
    | none => simp
    | some o' =>
      simp only [Option.bind_some]
      cases o'.dst with
      | none => simp
      | some d =>
        simp only [Option.bind_some]
        have h := tr.get d
        rw [Array.getD_eq_getD_getElem?] at h
        cases hT : T.get d with
        | none =>
          rw [hT] at h
          simp only [Option.getD_none, undefA] at h
          generalize hx : (a.tmps[d]?).getD Go.undef = x at h
          cases h
          rename_i cs hc
          cases ha : a.tmps[d]? with
          | none => simp
          | some y =>
            rw [ha] at hx
            simp only [Option.getD_some] at hx
            subst hx
            simp
        | some v =>
          rw [hT] at h
          simp only [Option.getD_some] at h
          cases ha : a.tmps[d]? with
          | none =>
            rw [ha] at h
            simp only [Option.getD_none, Go.undef] at h
            cases v <;> first | (cases h; done) | (simp; done) | (cases h; simp)
          | some y =>
            rw [ha] at h
            simp only [Option.getD_some] at h
            cases h
            case opn =>
              have ho : opnV y = true := by first | assumption | (subst_vars; assumption)
              cases y <;> first | (simp [opnV] at ho; done) | simp
            all_goals simp [Bool.beq_eq_decide_eq]

theorem callee_sound {P : Program} {θ : Th} {nt : Nat} {T : Tr AV} {a : Act} (tr : TR θ nt T a) (hg : ∀ g, g < 64 → θ.blk g = some g) {c : Call} {f : FuncId} {args : List AV} (h : calleeA T c = some (f, args)) :
    ∃ args' d, VRs θ args args' ∧ (∀ type, resolve a.eval c type = pure d) ∧ (∃ fv cap, d.target = .fn fv cap) ∧ invoke d.target d.args = callFunc f args'.toArray := by
  unfold calleeA at h
  split at h
  · rename_i x hc
    split at h
    · rename_i g first captured l hx hl
      simp only [Option.some.injEq, Prod.mk.injEq] at h
      obtain ⟨rfl, rfl⟩ := h
      have h1 := ev_sound tr hg hx
      have h2 := evs_sound tr hg _ _ hl
      generalize hxe : a.eval x = x' at h1
      cases h1
      rename_i f' c' _ hf hcp
      have e3 : (c.args.toList.map a.eval).toArray = c.args.map a.eval := by apply Array.ext'; simp
      refine ⟨f' ++ c.args.toList.map a.eval ++ c', { target := .fn (.func g) c'.toArray, args := f'.toArray ++ c.args.map a.eval }, (hf.append h2).append hcp, fun type => ?_, ⟨_, _, rfl⟩, ?_⟩
      · simp only [resolve, hc, hxe, Deferred.ofValue]
      · simp only [invoke]
        congr 1
        apply Array.ext'
        simp
    · cases h
  · cases h

/-- The results. -/
theorem res_sound {P : Program} {ty : Tr TI} (hty : TyOk P ty) {θ : Th} {B : Nat} {S : St} {w : World} (k : SR θ B S w) {nt : Nat} {T : Tr AV} {a : Act} (tr : TR θ nt T a) : ∀ (rs : List ResultVar) (vs : List AV), resA ty S.heap T rs = some vs →
    ∃ vs', (rs.mapM (fun
      | .tmp t => pure (a.tmps.getD t undef)
      | .cell x t => do loadVar t (← asAddr (a.tmps.getD x undef)) : ResultVar → Sem Value)).run P w = .ok vs' w ∧ VRs θ vs vs'
  | [], vs, h => by simp only [resA, Option.some.injEq] at h; subst h; exact ⟨[], by simp, .nil⟩
  | .tmp t :: rs, vs, h => by
    simp only [resA] at h
    split at h
    · rename_i v hv
      split at h
      · rename_i l hl
        simp only [Option.some.injEq] at h
        subst h
        obtain ⟨vs', h1, h2⟩ := res_sound hty k tr rs l hl
        have h3 := tr.get t
        rw [hv] at h3
        refine ⟨a.tmps.getD t undef :: vs', ?_, .cons _ _ _ _ h3 h2⟩
        rw [List.mapM_cons]
        simp only [Sem.run_bind, Sem.run_pure, Result.andThen_ok, h1]
      · cases h
    · cases h
  | .cell x t :: rs, vs, h => by
    simp only [resA] at h
    split at h
    · rename_i n off ti hx hti
      split at h
      · rename_i cs e mo hn
        split at h
        · rename_i v hv
          split at h
          · rename_i l hl
            simp only [Option.some.injEq] at h
            subst h
            obtain ⟨vs', h1, h2⟩ := res_sound hty k tr rs l hl
            have h3 := tr.get x
            rw [hx] at h3
            simp only [Option.getD_some] at h3
            generalize hxe : a.tmps.getD x undef = x' at h3
            cases h3
            rename_i b hb
            obtain ⟨v', h4, h5⟩ := loadVar_sound (hty _ _ hti) k.hr hn hb hv
            refine ⟨v' :: vs', ?_, .cons _ _ _ _ h5 h2⟩
            rw [List.mapM_cons]
            have e : (asAddr (.pointer (some ⟨b, off, none⟩))).run P w = .ok ⟨b, off, none⟩ w := rfl
            simp only [Sem.run_bind, Sem.run_pure, Result.andThen_ok, h1, hxe, e, h4]
          · cases h
        · cases h
      · cases h
    · cases h

theorem results_sound {P : Program} {ty : Tr TI} (hty : TyOk P ty) {θ : Th} {B : Nat} {S : St} {w : World} (k : SR θ B S w) {nt : Nat} {T : Tr AV} {a : Act} (tr : TR θ nt T a) {fn : Func} {vs : List AV} (h : resA ty S.heap T fn.results.toList = some vs) :
    ∃ v', (results fn a.tmps).run P w = .ok v' w ∧ VR θ (oneA vs) v' := by
  obtain ⟨vs', h1, h2⟩ := res_sound hty k tr _ _ h
  refine ⟨if h : vs'.toArray.size = 1 then vs'.toArray[0] else .tuple vs'.toArray, ?_, ?_⟩
  · unfold results
    simp only [Sem.run_bind, Sem.run_pure]
    rw [Array.mapM_eq_mapM_toList]
    simp only [Sem.run_map]
    refine Eq.trans (congrArg (fun r => Result.andThen (Result.andThen r _) _) h1) rfl
  · cases h2 with
    | nil => exact VR.tuple [] [] .nil
    | cons v v' vs vs' hv ht =>
      cases ht with
      | nil => exact hv
      | cons u u' us us' hu ht => exact VR.tuple _ _ (.cons _ _ _ _ hv (.cons _ _ _ _ hu ht))
end Go.Exe
namespace Go.Exe
set_option linter.unusedSectionVars false
variable [Opn]
open Go.RowKit

def AExit.out : AExit → Exit
  | .normal => .normal
  | .exit id => .exit id
  | .ret => .ret

def CodePost (P : Program) (B nt : Nat) (θ : Th) (S : St) (w : World) (e : AExit) (T' : Tr AV) (S' : St) : Exit → Act → World → Prop :=
  fun x a' w' => x = e.out ∧ ∃ θ', SR θ' B S' w' ∧ TR θ' nt T' a' ∧ Ext θ S w θ' S' w' ∧ DefsOk P a'

structure LT (all : List Oper) (listed : Array Bool) (todo : List (Nat × Oper)) : Prop where
  size : listed.size = all.length
  mem : ∀ j, j < all.length → (listed.getD j true = false ↔ ∃ o, (j, o) ∈ todo)
  get : ∀ j o, (j, o) ∈ todo → all[j]? = some o

/-- What is held may be held. -/
structure HoldOk (all : List Oper) (H : Hold) : Prop where
  tree : ∀ n o, H.tree.get n = some o → (n, o) ∈ H.objs
  sure : ∀ p ∈ H.objs, sureObj p.2 = true
  late : ∀ j oj, all[j]? = some oj → memN j H.late = true → ∀ i, i < all.length → memN i H.late = false → ∃ e ∈ oj.after, Region.binds .any e = true ∧ e.on = i


def Sound (P : Program) (nt : Nat) (k : Task) (S : St) (out : Out) : Prop :=
  match k, out with
  | .code c T, .code e T' S' => ∀ θ B w a, SR θ B S w → TR θ nt T a → DefsOk P a → c.wp P (CodePost P B nt θ S w e T' S') a w
  | .ops all todo T, .code e T' S' => e = .normal ∧ ∀ i θ B w a (Q : Exit → Act → World → Prop), todo = all.drop i → SR θ B S w → TR θ nt T a → DefsOk P a →
      (∀ a' w', CodePost P B nt θ S w .normal T' S' .normal a' w' → Q .normal a' w') → wpOps P all.toArray Q (List.range' i todo.length) a w
  | .op all o nm T, .code e T' S' => e = .normal ∧ ∀ i θ B w a (Q : Exit → Act → World → Prop) (K : Act → World → Prop), all[i]? = some o → (∀ m, nm = some m → θ.blk m = none ∧ 64 ≤ m ∧ m < S.next) → SR θ B S w → TR θ nt T a → DefsOk P a →
      (∀ θ' a' w', SR θ' B S' w' → TR θ' nt T' a' → Ext0 θ S w θ' S' w' → (∀ m, m < S.next → some m ≠ nm → θ'.blk m = θ.blk m) → DefsOk P a' → K a' w') → wpOp P all.toArray Q i K a w
  | .any ops all n base H todo T, .code e T' S' => e = .normal ∧ ∀ θ θ0 B w a listed fuelW (Q : Exit → Act → World → Prop), ops = all.toArray → n = all.length → LT all listed todo → todo.length ≤ fuelW → noSel all = true →
      HoldOk all H → θ0.Le θ → ((∃ i o, (i, o) ∈ todo ∧ memN i H.late = false) → HR θ0 B H.tree.get w) →
      SR θ B S w → TR θ nt T a → DefsOk P a → 64 ≤ base → base + n ≤ S.next → (∀ i o, (i, o) ∈ todo → θ.blk (base + i) = none) →
      (∀ θ' a' w', SR θ' B S' w' → TR θ' nt T' a' → Ext0 θ S w θ' S' w' → (∀ m, m < base → θ'.blk m = θ.blk m) → DefsOk P a' → Q .normal a' w') → (∀ c a w, ¬ Q (.panic c) a w) →
      wpAnyL P .any ops Q (HR θ0 B H.tree.get) (fun j => memN j H.late) fuelW listed a w
  | .call f args, .call v S' => ∀ θ B w args', SR θ B S w → VRs θ args args' → (∀ args w, (callFunc f args).run P w = .ok (.enter f args) w) ∧
      Calls P f args'.toArray w (fun e w' => ∃ v' θ', e = .returned v' ∧ VR θ' v v' ∧ SR θ' B S' w' ∧ Ext θ S w θ' S' w')
  | _, _ => False

/-! ### Which may come now -/
theorem mem_waits {e : Edge} : ∀ {todo : List (Nat × Oper)}, waitsA e todo = true ↔ ∃ o, (e.on, o) ∈ todo
  | [] => by simp [waitsA]
  | (j, o) :: r => by
    simp only [waitsA]
    split
    · rename_i h
      have := eqN _ _ h
      subst this
      simp only [true_iff]
      exact ⟨o, List.mem_cons_self ..⟩
    · rename_i h
      have hne : e.on ≠ j := fun e' => by rw [← e', Nat.beq_refl] at h; cases h
      rw [mem_waits]
      constructor
      · rintro ⟨o', h'⟩; exact ⟨o', List.mem_cons_of_mem _ h'⟩
      · rintro ⟨o', h'⟩
        rcases List.mem_cons.1 h' with h' | h'
        · cases h'; exact (hne rfl).elim
        · exact ⟨o', h'⟩

theorem mem_edges {n : Nat} {todo : List (Nat × Oper)} : ∀ {l : List Edge}, edgesA n todo l = true ↔ ∀ e ∈ l, Region.binds .any e = true → e.on < n ∧ ¬ ∃ o, (e.on, o) ∈ todo
  | [] => by simp [edgesA]
  | e :: es => by
    simp only [edgesA]
    split
    · rename_i hb
      rw [mem_edges]
      constructor
      · intro h e' he' hb'
        rcases List.mem_cons.1 he' with rfl | he'
        · rw [hb] at hb'; cases hb'
        · exact h e' he' hb'
      · intro h e' he' hb'; exact h e' (List.mem_cons_of_mem _ he') hb'
    · rename_i hb
      split
      · rename_i h1 h2
        have h1 := Nat.le_of_ble_eq_true h1
        have h2 : ¬ ∃ o, (e.on, o) ∈ todo := fun h => by rw [mem_waits.2 h] at h2; cases h2
        rw [mem_edges]
        constructor
        · intro h e' he' hb'
          rcases List.mem_cons.1 he' with rfl | he'
          · exact ⟨h1, h2⟩
          · exact h e' he' hb'
        · intro h e' he' hb'; exact h e' (List.mem_cons_of_mem _ he') hb'
      · rename_i h1
        simp only [Bool.false_eq_true, false_iff]
        intro h
        obtain ⟨h2, h3⟩ := h e (List.mem_cons_self ..) hb
        have h4 : waitsA e todo = false := by
          cases hw : waitsA e todo with
          | false => rfl
          | true => exact (h3 (mem_waits.1 hw)).elim
        exact h1 (Nat.ble_eq_true_of_le h2) h4

theorem mem_readyA {n : Nat} {todo : List (Nat × Oper)} {i : Nat} {o : Oper} : ∀ {l : List (Nat × Oper)}, (i, o) ∈ readyA n todo l ↔ (i, o) ∈ l ∧ edgesA n todo o.after.toList = true
  | [] => by simp [readyA]
  | (j, p) :: r => by
    simp only [readyA]
    split
    · rename_i h
      rw [List.mem_cons, List.mem_cons, mem_readyA]
      constructor
      · rintro (e | ⟨h1, h2⟩)
        · cases e; exact ⟨.inl rfl, h⟩
        · exact ⟨.inr h1, h2⟩
      · rintro ⟨e | h1, h2⟩
        · exact .inl e
        · exact .inr ⟨h1, h2⟩
    · rename_i h
      rw [List.mem_cons, mem_readyA]
      constructor
      · rintro ⟨h1, h2⟩; exact ⟨.inr h1, h2⟩
      · rintro ⟨e | h1, h2⟩
        · cases e; rw [h] at h2; cases h2
        · exact ⟨h1, h2⟩

theorem ready_iff {all : List Oper} {listed : Array Bool} {todo : List (Nat × Oper)} (lt : LT all listed todo) (i : Nat) : i ∈ Region.ready .any all.toArray listed ↔ ∃ o, (i, o) ∈ readyA all.length todo todo := by
  have hedge : ∀ o : Oper, (∀ e ∈ o.after, Region.binds .any e = true → listed.getD e.on false = true) ↔ edgesA all.length todo o.after.toList = true := by
    intro o
    rw [mem_edges]
    constructor
    · intro h e he hb
      have h1 := h e (by simpa using he) hb
      have hlt : e.on < listed.size := by
        rcases Nat.lt_or_ge e.on listed.size with h | h
        · exact h
        · simp [Array.getElem?_eq_none h] at h1
      rw [lt.size] at hlt
      refine ⟨hlt, fun hx => ?_⟩
      have := (lt.mem e.on hlt).2 hx
      have hlt' : e.on < listed.size := by rw [lt.size]; exact hlt
      simp [hlt'] at h1 this
      rw [h1] at this; cases this
    · intro h e he hb
      obtain ⟨h1, h2⟩ := h e (by simpa using he) hb
      have hlt' : e.on < listed.size := by rw [lt.size]; exact h1
      cases hv : listed.getD e.on true with
      | false => exact (h2 ((lt.mem e.on h1).1 hv)).elim
      | true => simp [hlt'] at hv ⊢; exact hv
  rw [mem_ready]
  constructor
  · rintro ⟨h1, o, h2, h3⟩
    have hlt : i < all.length := by
      have := (Array.getElem?_eq_some_iff.1 h2).1
      simpa using this
    obtain ⟨o', ho'⟩ := (lt.mem i hlt).1 h1
    have := lt.get i o' ho'
    have h2 : all[i]? = some o := by simpa using h2
    rw [this] at h2
    cases h2
    exact ⟨o, mem_readyA.2 ⟨ho', (hedge o).1 h3⟩⟩
  · rintro ⟨o, h⟩
    obtain ⟨h1, h2⟩ := mem_readyA.1 h
    have h3 := lt.get i o h1
    have hlt : i < all.length := (List.getElem?_eq_some_iff.1 h3).1
    exact ⟨(lt.mem i hlt).2 ⟨o, h1⟩, o, by simpa using h3, (hedge o).2 h2⟩

theorem mem_dropA {i j : Nat} {o : Oper} : ∀ {l : List (Nat × Oper)}, (j, o) ∈ dropA i l ↔ (j, o) ∈ l ∧ j ≠ i
  | [] => by simp [dropA]
  | (k, p) :: r => by
    simp only [dropA]
    split
    · rename_i h
      have := eqN _ _ h
      subst this
      rw [mem_dropA, List.mem_cons]
      constructor
      · rintro ⟨h1, h2⟩; exact ⟨.inr h1, h2⟩
      · rintro ⟨e | h1, h2⟩
        · cases e; exact (h2 rfl).elim
        · exact ⟨h1, h2⟩
    · rename_i h
      have hne : k ≠ i := fun e => by rw [e, Nat.beq_refl] at h; cases h
      rw [List.mem_cons, List.mem_cons, mem_dropA]
      constructor
      · rintro (e | ⟨h1, h2⟩)
        · cases e; exact ⟨.inl rfl, hne⟩
        · exact ⟨.inr h1, h2⟩
      · rintro ⟨e | h1, h2⟩
        · exact .inl e
        · exact .inr ⟨h1, h2⟩

theorem dropA_le {i : Nat} : ∀ (l : List (Nat × Oper)), (dropA i l).length ≤ l.length
  | [] => Nat.le_refl _
  | (k, p) :: r => by
    simp only [dropA]
    split
    · exact Nat.le_succ_of_le (dropA_le r)
    · exact Nat.succ_le_succ (dropA_le r)
theorem dropA_lt {i : Nat} {o : Oper} : ∀ {l : List (Nat × Oper)}, (i, o) ∈ l → (dropA i l).length < l.length
  | (k, p) :: r, h => by
    simp only [dropA]
    split
    · exact Nat.lt_succ_of_le (dropA_le r)
    · rename_i hk
      rcases List.mem_cons.1 h with e | h
      · cases e; rw [Nat.beq_refl] at hk; cases hk
      · exact Nat.succ_lt_succ (dropA_lt h)

theorem LT.drop {all : List Oper} {listed : Array Bool} {todo : List (Nat × Oper)} (lt : LT all listed todo) (i : Nat) : LT all (listed.setIfInBounds i true) (dropA i todo) := by
  refine ⟨by simp [lt.size], fun j hj => ?_, fun j o h => lt.get j o (mem_dropA.1 h).1⟩
  by_cases e : i = j
  · subst e
    have hlt : i < listed.size := by rw [lt.size]; exact hj
    simp [hlt, mem_dropA]
  · rw [getD_set_ne true e, lt.mem j hj]
    constructor
    · rintro ⟨o, h⟩; exact ⟨o, mem_dropA.2 ⟨h, fun h' => e h'.symm⟩⟩
    · rintro ⟨o, h⟩; exact ⟨o, (mem_dropA.1 h).1⟩

theorem mem_numA {i : Nat} {o : Oper} : ∀ {l : List Oper} {k : Nat}, (i, o) ∈ numA l k ↔ k ≤ i ∧ l[i - k]? = some o
  | [], k => by simp [numA]
  | p :: l, k => by
    simp only [numA, List.mem_cons, mem_numA]
    constructor
    · rintro (e | ⟨h1, h2⟩)
      · cases e; simp
      · refine ⟨by omega, ?_⟩
        rw [show i - k = (i - (k + 1)) + 1 by omega, List.getElem?_cons_succ]
        exact h2
    · rintro ⟨h1, h2⟩
      by_cases e : i = k
      · subst e; simp at h2; left; rw [h2]
      · right
        refine ⟨by omega, ?_⟩
        rw [show i - k = (i - (k + 1)) + 1 by omega, List.getElem?_cons_succ] at h2
        exact h2

theorem LT.start (all : List Oper) : LT all (Array.replicate all.toArray.size false) (numA all 0) := by
  refine ⟨by simp, fun j hj => ?_, fun j o h => by simpa using (mem_numA.1 h).2⟩
  simp only [mem_numA, Nat.zero_le, Nat.sub_zero, true_and]
  simp [hj]

theorem numA_length : ∀ (l : List Oper) (k : Nat), (numA l k).length = l.length
  | [], _ => rfl
  | _ :: l, k => by simp [numA, numA_length l]

theorem noSel_spec : ∀ {l : List Oper}, noSel l = true → ∀ o ∈ l, ∀ cs b, o.op ≠ .select cs b
  | [], _, _, h, _, _ => by cases h
  | o :: os, h, o', hm, cs, b => by
    unfold noSel at h
    split at h
    · cases h
    · rename_i hns
      rcases List.mem_cons.1 hm with rfl | hm
      · exact fun e => hns _ _ e
      · exact noSel_spec h o' hm cs b

theorem onA_spec {i : Nat} : ∀ {l : List Edge}, onA i l = true → ∃ e ∈ l, Region.binds .any e = true ∧ e.on = i
  | [], h => by simp [onA] at h
  | e :: es, h => by
    simp only [onA] at h
    split at h
    · rename_i h1
      simp only [Bool.and_eq_true] at h1
      exact ⟨e, List.mem_cons_self .., h1.1, eqN _ _ h1.2⟩
    · obtain ⟨e', h1, h2⟩ := onA_spec h
      exact ⟨e', List.mem_cons_of_mem _ h1, h2⟩

theorem freeA_spec {ops : Array Oper} {i : Nat} {o : Oper} : ∀ {l : List (Nat × Oper)}, freeA ops i o l = true → ∀ j p, (j, p) ∈ l → j ≠ i → (∀ e ∈ p.after, Region.binds .any e = true → e.on ≠ i) → o.apart ops p = true
  | [], _, j, p, h, _, _ => by cases h
  | (k, q) :: r, h, j, p, hm, hne, hno => by
    simp only [freeA] at h
    split at h
    · rename_i h1
      rcases List.mem_cons.1 hm with e | hm
      · cases e
        simp only [Bool.or_eq_true] at h1
        rcases h1 with (h1 | h1) | h1
        · exact (hne (eqN _ _ h1)).elim
        · obtain ⟨e, he, hb, hon⟩ := onA_spec h1
          exact (hno e (by simpa using he) hb hon).elim
        · exact h1
      · exact freeA_spec h j p hm hne hno
    · cases h

theorem calmA_spec {ty : Tr TI} {H : Hold} {ops : Array Oper} {all : List Oper} {T : Tr AV} {todo : List (Nat × Oper)} {i : Nat} {o : Oper} {v : AV} : ∀ {l : List (Nat × Oper)}, calmA ty H ops all T todo l = some (i, o, v) → (i, o) ∈ l ∧ calmV ty H all T i o = some v ∧ freeA ops i o todo = true
  | [], h => by simp [calmA] at h
  | (j, p) :: r, h => by
    simp only [calmA] at h
    split at h
    · rename_i u hu
      split at h
      · rename_i hf
        simp only [Option.some.injEq, Prod.mk.injEq] at h
        obtain ⟨rfl, rfl, rfl⟩ := h
        exact ⟨List.mem_cons_self .., hu, hf⟩
      · obtain ⟨h1, h2⟩ := calmA_spec h; exact ⟨List.mem_cons_of_mem _ h1, h2⟩
    · obtain ⟨h1, h2⟩ := calmA_spec h; exact ⟨List.mem_cons_of_mem _ h1, h2⟩

theorem calmH_sound {P : Program} {ty : Tr TI} (hty : TyOk P ty) {θ : Th} {nt B : Nat} {T : Tr AV} {a : Act} (tr : TR θ nt T a) (hg : ∀ g, g < 64 → θ.blk g = some g) {h : Tr AObj} {all : List Oper} {o : Oper} {v : AV} (hc : calmH ty h all T o = some v)
    {S' : World → Prop} (hS : ∀ w, S' w → HR θ B h.get w) {w0 : World} (h0 : S' w0) : ∃ v', VR θ v v' ∧ YieldsIf P all.toArray S' o v' a := by
  unfold calmH at hc
  split at hc
  · rename_i hw
    simp only [Option.some.injEq] at hc
    subst hc
    rw [wanted_sound tr all o] at hw
    exact ⟨undef, VR.undef, .inr ⟨hw, rfl⟩⟩
  · rename_i hw
    rw [wanted_sound tr all o] at hw
    split at hc
    · rename_i u hu
      split at hc
      · rename_i hs
        simp only [Option.some.injEq] at hc
        subst hc
        have key : ∀ w, S' w → ∃ v', (execOp a.eval o).run P w = .ok (.value v') w ∧ VR θ u v' := fun w hw =>
          pure_sound (B := B) (h := h) ⟨hty, hS w hw, tr, hg⟩ o hu
        obtain ⟨v', h1, h2⟩ := key w0 h0
        refine ⟨v', h2, .inl ⟨hw, fun w hSw => ?_⟩⟩
        obtain ⟨v2, h3, h4⟩ := key w hSw
        rw [h3, VR.fun 5 u v2 v' h4 h2 hs]
      · cases hc
    · cases hc

theorem HR.le {θ θ' : Th} {B : Nat} {h : Nat → Option AObj} {w : World} (hle : θ.Le θ') (k : HR θ B h w) : HR θ' B h w := by
  have hb : ∀ n b, h n ≠ none → θ'.blk n = some b → θ.blk n = some b := fun n b hn hb => by
    cases ho : h n with
    | none => exact (hn ho).elim
    | some o =>
      obtain ⟨b1, _, h1, _⟩ := k.obj n o ho
      have := hle.blk _ _ h1
      rw [hb] at this
      rw [h1, this]
  refine ⟨fun n o hn => ?_, fun n m b h1 h2 h3 h4 h5 => k.inj n m b h1 h2 h3 (hb n b h2 h4) (hb m b h3 h5)⟩
  obtain ⟨b, ob, h1, h2, h3, h4⟩ := k.obj n o hn
  exact ⟨b, ob, hle.blk _ _ h1, h2, h3.mono hle, h4⟩

theorem HR.sub {θ : Th} {B : Nat} {h h' : Nat → Option AObj} {w : World} (hs : ∀ n o, h' n = some o → h n = some o) (k : HR θ B h w) : HR θ B h' w := by
  have hn : ∀ n, h' n ≠ none → h n ≠ none := fun n hn => by
    cases ho : h' n with
    | none => exact (hn ho).elim
    | some o => rw [hs n o ho]; exact fun e => by cases e
  exact ⟨fun n o ho => k.obj n o (hs n o ho), fun n m b h1 h2 h3 => k.inj n m b h1 (hn n h2) (hn m h3)⟩

theorem calm_sound {P : Program} {ty : Tr TI} (hty : TyOk P ty) {θ θ0 : Th} {nt B : Nat} {T : Tr AV} {a : Act} (tr : TR θ nt T a) (hg : ∀ g, g < 64 → θ.blk g = some g) (hle : θ0.Le θ) {H : Hold} {all : List Oper} {i : Nat} {o : Oper} {v : AV} (h : calmV ty H all T i o = some v)
    {w0 : World} (h0 : memN i H.late = false → HR θ0 B H.tree.get w0) :
    ∃ v' S', VR θ v v' ∧ YieldsIf P all.toArray S' o v' a ∧ S' w0 ∧ ((∀ w, S' w) ∨ (memN i H.late = false ∧ ∀ w, HR θ0 B H.tree.get w → S' w)) := by
  unfold calmV at h
  split at h
  · rename_i u hu
    simp only [Option.some.injEq] at h
    subst h
    obtain ⟨v', h1, h2⟩ := calmH_sound (P := P) (B := 0) (S' := fun _ => True) hty tr hg hu (fun w _ => ⟨fun n ob h => (by cases h), fun n m b _ h => (h rfl).elim⟩) (w0 := w0) trivial
    exact ⟨v', _, h1, h2, trivial, .inl fun _ => trivial⟩
  · split at h
    · cases h
    · rename_i l x r ht
      split at h
      · cases h
      · rename_i hm
        rw [← ht] at h
        obtain ⟨v', h1, h2⟩ := calmH_sound (P := P) (B := B) (S' := HR θ0 B H.tree.get) hty tr hg h (fun w k => k.le hle) (h0 hm)
        exact ⟨v', _, h1, h2, h0 hm, .inr ⟨hm, fun _ k => k⟩⟩

theorem VRs.funL {θ : Th} : ∀ {l : List AV} {a b : List Value}, VRs θ l a → VRs θ l b → l.all (AV.sure 5) = true → a = b
  | _, _, _, .nil, h2, _ => by cases h2; rfl
  | _, _, _, .cons v v' vs vs' h1 h2, h3, hs => by
    cases h3 with
    | cons _ u' _ us' h4 h5 =>
      simp only [List.all_cons, Bool.and_eq_true] at hs
      rw [VR.fun 5 v v' u' h1 h4 hs.1, VRs.funL h2 h5 hs.2]

theorem keptA_spec {h : Tr AObj} : ∀ {l : List (Nat × AObj)}, keptA h l = true → ∀ n o, (n, o) ∈ l → h.get n = some o
  | [], _, _, _, hm => by cases hm
  | (k, p) :: r, hk, n, o, hm => by
    simp only [keptA] at hk
    split at hk
    · rename_i o' ho
      split at hk
      · rename_i he
        rcases List.mem_cons.1 hm with e | hm
        · cases e; rw [ho, eqObj_eq _ _ he]
        · exact keptA_spec hk n o hm
      · cases hk
    · cases hk

/-- What is held stands behind an operation too, where the objects are as they were. -/
theorem hold_again {all : List Oper} {H : Hold} (ok : HoldOk all H) {θ θ' : Th} (hle : θ.Le θ') {B : Nat} {w w' : World} {S' : St} (h0 : HR θ B H.tree.get w) (k : SR θ' B S' w') (hk : keptA S'.heap H.objs = true) : HR θ B H.tree.get w' := by
  refine ⟨fun n o hn => ?_, h0.inj⟩
  have hm := ok.tree n o hn
  obtain ⟨b, ob, hb, _, h3, _⟩ := h0.obj n o hn
  obtain ⟨b', ob', hb', h2', h3', h4'⟩ := k.hr.obj n o (keptA_spec hk n o hm)
  rw [hle.blk _ _ hb] at hb'
  cases hb'
  refine ⟨b, ob', hb, h2', ?_, h4'⟩
  have hs := ok.sure _ hm
  cases o with
  | map es c => simp [sureObj] at hs
  | stiff cs e => simp [sureObj] at hs
  | look es => simp [sureObj] at hs
  | cells cs e m =>
    simp only [sureObj] at hs
    cases ob <;> simp only [OR] at h3
    cases ob' <;> simp only [OR] at h3'
    obtain ⟨rfl, pre, rest, h5, h6, h7⟩ := h3
    obtain ⟨rfl, pre', rest', h5', h6', h7'⟩ := h3'
    have := (h6.mono hle).funL h6' hs
    subst this
    refine ⟨rfl, pre, rest', h5', h6, fun s z hm => ?_⟩
    obtain ⟨x, h8, _⟩ := h7 s z hm
    obtain ⟨x', h9, h10⟩ := h7' s z hm
    rw [hle.ext _ _ h8] at h9
    cases h9
    exact ⟨x, h8, h10⟩

theorem treeOf_get : ∀ {l : List (Nat × AObj)} {n : Nat} {o : AObj}, (treeOf l).get n = some o → (n, o) ∈ l
  | [], n, o, h => by simp [treeOf, Tr.get_nil] at h
  | (k, p) :: r, n, o, h => by
    simp only [treeOf] at h
    rw [Tr.get_put _ _ _ _ _ (Nat.lt_succ_self k)] at h
    split at h
    · rename_i e; subst e; cases h; exact List.mem_cons_self ..
    · exact List.mem_cons_of_mem _ (treeOf_get h)

theorem sureAll_spec : ∀ {l : List (Nat × AObj)}, sureAll l = true → ∀ p ∈ l, sureObj p.2 = true
  | [], _, _, hm => by cases hm
  | (k, q) :: r, h, p, hm => by
    simp only [sureAll] at h
    split at h
    · rename_i hs
      rcases List.mem_cons.1 hm with rfl | hm
      · exact hs
      · exact sureAll_spec h p hm
    · cases h

theorem numA_mem : ∀ (l : List Oper) (k j : Nat) (o : Oper), l[j]? = some o → (k + j, o) ∈ numA l k
  | [], _, _, _, h => by simp at h
  | x :: xs, k, 0, o, h => by simp at h; subst h; exact List.mem_cons_self ..
  | x :: xs, k, j + 1, o, h => by
    have := numA_mem xs (Nat.succ k) j o (by simpa using h)
    have e : Nat.succ k + j = k + (j + 1) := by omega
    rw [e] at this
    exact List.mem_cons_of_mem _ this

theorem waitsAll_spec {late : List Nat} {es : List Edge} : ∀ {l : List (Nat × Oper)}, waitsAll late es l = true → ∀ i o, (i, o) ∈ l → memN i late = false → onA i es = true
  | [], _, _, _, hm, _ => by cases hm
  | (k, q) :: r, h, i, o, hm, hl => by
    simp only [waitsAll] at h
    split at h
    · rename_i h1
      rcases List.mem_cons.1 hm with e | hm
      · cases e
        rw [hl] at h1
        simpa using h1
      · exact waitsAll_spec h i o hm hl
    · cases h

theorem lateOk_spec {late : List Nat} {num : List (Nat × Oper)} : ∀ {l : List (Nat × Oper)}, lateOk late num l = true → ∀ j o, (j, o) ∈ l → memN j late = true → waitsAll late o.after.toList num = true
  | [], _, _, _, hm, _ => by cases hm
  | (k, q) :: r, h, j, o, hm, hl => by
    simp only [lateOk] at h
    split at h
    · rename_i h1
      rcases List.mem_cons.1 hm with e | hm
      · cases e
        rw [hl] at h1
        simpa using h1
      · exact lateOk_spec h j o hm hl
    · cases h

theorem holdA_ok {wide : Bool} {T : Tr AV} {h : Tr AObj} {all : List Oper} {H : Hold} (hh : holdA wide T h all = some H) : HoldOk all H ∧ keptA h H.objs = true := by
  unfold holdA at hh
  split at hh
  · split at hh
    rename_i objs late _ _
    split at hh
    · rename_i h1 h2 h3
      simp only [Option.some.injEq] at hh
      subst hh
      refine ⟨⟨fun n o hn => treeOf_get hn, sureAll_spec h1, fun j oj hj hl i hi hli => ?_⟩, h2⟩
      have hw := lateOk_spec h3 j oj (by have := numA_mem all 0 j oj hj; simpa using this) hl
      obtain ⟨o, ho⟩ : ∃ o, all[i]? = some o := ⟨_, List.getElem?_eq_getElem hi⟩
      obtain ⟨e, he, hb, hon⟩ := onA_spec (waitsAll_spec hw i o (by have := numA_mem all 0 i o ho; simpa using this) hli)
      exact ⟨e, by simpa using he, hb, hon⟩
    · cases hh
  · cases hh

theorem holdNone_ok (all : List Oper) : HoldOk all Hold.none := ⟨fun n o h => (by cases h), fun p hp => (by cases hp), fun j oj _ h => (by cases h)⟩
end Go.Exe
namespace Go.Exe
set_option linter.unusedSectionVars false
variable [Opn]
open Go.RowKit

section
variable {P : Program} {E : Env} {cr : FuncId → List AV → St → Option Out}

theorem leaves_ok {fn : Func} {tmps : Array Value} {R : Ending → World → Prop} : ∀ (ds : List Deferred) (w : World), (∀ d ∈ ds, DefOk P d) → (∀ w', Below w.heap.size w w' → ∃ v, (results fn tmps).run P w' = .ok v w' ∧ R (.returned v) w') →
    Leaves P fn tmps R ds .returning w
  | [], w, _, h => h w (.refl _ _)
  | d :: ds, w, hd, h => by
    obtain ⟨fv, cap, f, args, h1, h2, h3⟩ := hd d (List.mem_cons_self ..)
    refine ⟨by simp, fv, cap, f, args, h1, h2 w, ?_⟩
    refine (h3 w).mono fun e u w' ⟨⟨v, he⟩, hu, hb⟩ => ?_
    subst he; subst hu
    exact leaves_ok ds w' (fun d hd' => hd d (List.mem_cons_of_mem _ hd')) (fun w'' hb' => h w'' (hb.trans (hb'.mono hb.size)))

theorem so_op (hE : EnvOk P E) {fuel : Nat} (ih : ∀ nt k S out, run E cr fuel nt k S = some out → Sound P nt k S out) {nt : Nat} {all : List Oper} {o : Oper} {nm : Option Nat} {T : Tr AV} {S : St} {out : Out} (h : run E cr (fuel + 1) nt (.op all o nm T) S = some out) :
    Sound P nt (.op all o nm T) S out := by
  simp only [run, rCode, rOps, rCall, rDefer, rEff, rOp, rAny, rFun, rRegion, rHeld] at h
  have hend : ∀ {q : Bool} {T' : Tr AV} {v : AV}, putT q nt T o.dst v = some T' → out = .code .normal T' S → (∀ θ B w a, SR θ B S w → TR θ nt T a → DefsOk P a → ∀ Q K i, all[i]? = some o → (∀ v', VR θ v v' → K (a.put o.dst v') w) → wpOp P all.toArray Q i K a w) → Sound P nt (.op all o nm T) S out := by
    intro q T' v hT ho hrun
    subst ho
    refine ⟨rfl, fun i θ B w a Q K hi hnm k tr dk hK => hrun θ B w a k tr dk Q K i hi fun v' hv => ?_⟩
    exact hK θ _ w k (tr.put hT hv) (.refl _ _ _) (fun _ _ _ => rfl) (dk.put _ _)
  have wop : ∀ {Q : Exit → Act → World → Prop} {K : Act → World → Prop} {i : Nat} {a : Act} {w : World}, all[i]? = some o → Region.wanted o (yielded all.toArray a.tmps) = true → o.wp P a w K Q → wpOp P all.toArray Q i K a w := by
    intro Q K i a w hi hw hh
    unfold wpOp
    have : all.toArray[i]? = some o := by simpa using hi
    simp only [this, hw, if_true]
    exact .inl hh
  split at h
  · rename_i hw
    split at h
    · rename_i T' hT
      refine hend hT (by cases h; rfl) fun θ B w a k tr dk Q K i hi hK => ?_
      rw [wanted_sound tr all o] at hw
      unfold wpOp
      have : all.toArray[i]? = some o := by simpa using hi
      simp only [this, hw, Bool.false_eq_true, if_false]
      exact hK _ VR.undef
    · cases h
  · rename_i hw
    split at h
    · rename_i v hp
      split at h
      · rename_i T' hT
        refine hend hT (by cases h; rfl) fun θ B w a k tr dk Q K i hi hK => ?_
        rw [wanted_sound tr all o] at hw
        obtain ⟨v', h1, h2⟩ := pure_sound ⟨hE.ty, k.hr, tr, k.glob⟩ o hp
        refine wop hi hw ?_
        simp only [Oper.wp, h1, Oper.upon]
        exact hK v' h2
      · cases h
    · rename_i v ob hp
      split at h
      · rename_i T' hT
        split at h
        · rw [push_eq] at h
          cases h
          refine ⟨rfl, fun i θ B w a Q K hi hnm k tr dk hK => ?_⟩
          rw [wanted_sound tr all o] at hw
          obtain ⟨v', ob', h1, h2⟩ := pure_sound ⟨hE.ty, k.hr, tr, k.glob⟩ o hp
          refine wop hi hw ?_
          simp only [Oper.wp, h1, Oper.upon]
          have hle : θ.Le (θ.plus S.next w.heap.size S.syms none) := Th.plus_le (k.next _ (Nat.le_refl _)) (k.syms _ (Nat.le_refl _))
          obtain ⟨h3, h4, h5⟩ := h2 (θ.plus S.next w.heap.size S.syms none) hle (by simp [Th.plus])
          obtain ⟨s1, s2⟩ := SR.plus (r := Nat.succ S.ver) (k := k) (w' := w.alloc ob') (y := none) (sy := S.syms) (Nat.le_refl _) (fun _ _ _ => rfl) rfl rfl rfl rfl h4 h5
          exact hK _ _ _ s1 ((tr.mono hle).put hT h3) s2.to0 (fun m hm _ => s2.old m hm) (dk.put _ _)
        · rename_i m
          rw [pushAt_eq] at h
          cases h
          refine ⟨rfl, fun i θ B w a Q K hi hnm k tr dk hK => ?_⟩
          obtain ⟨n1, n2, n3⟩ := hnm m rfl
          rw [wanted_sound tr all o] at hw
          obtain ⟨v', ob', h1, h2⟩ := pure_sound ⟨hE.ty, k.hr, tr, k.glob⟩ o hp
          refine wop hi hw ?_
          simp only [Oper.wp, h1, Oper.upon]
          have hle : θ.Le (θ.at m w.heap.size) := Th.at_le n1
          obtain ⟨h3, h4, h5⟩ := h2 (θ.at m w.heap.size) hle (by simp [Th.at])
          obtain ⟨s1, s2, s3⟩ := SR.plusAt (Nat.succ S.ver) k n1 n2 n3 (w' := w.alloc ob') rfl rfl rfl rfl h4 h5
          exact hK _ _ _ s1 ((tr.mono hle).put hT h3) s2 (fun x _ hx => s3 x fun e => hx (by rw [e])) (dk.put _ _)
      · cases h
    · split at h
      · rename_i v S1 he
        split at h
        · rename_i T' hT
          cases h
          refine ⟨rfl, fun i θ B w a Q K hi hnm k tr dk hK => ?_⟩
          rw [wanted_sound tr all o] at hw
          obtain ⟨θ', w', r, v', h1, h2, h3, h4, h5⟩ := eff_sound hE.ty k tr o he
          refine wop hi hw ?_
          rcases h2 with rfl | ⟨rfl, rfl⟩
          · simp only [Oper.wp, h1, Oper.upon]
            exact hK _ _ _ h4 ((tr.mono h5.le).put hT h3) h5.to0 (fun m hm _ => h5.old m hm) (dk.put _ _)
          · simp only [Oper.wp, h1, Oper.upon]
            exact hK _ _ _ h4 ((tr.mono h5.le).put hT h3) h5.to0 (fun m hm _ => h5.old m hm) (dk.put _ _)
        · cases h
      · split at h
        · rename_i c hop
          split at h
          · rename_i f args hc
            split at h
            · rename_i v S1 hcall
              split at h
              · rename_i T' hT
                cases h
                refine ⟨rfl, fun i θ B w a Q K hi hnm k tr dk hK => ?_⟩
                rw [wanted_sound tr all o] at hw
                obtain ⟨args', d, h1, h2, _, h3⟩ := callee_sound (P := P) tr k.glob hc
                obtain ⟨h4, h5⟩ := ih _ _ _ _ hcall θ B w args' k h1
                refine wop hi hw ?_
                have : (execOp a.eval o).run P w = .ok (.enter f args'.toArray) w := by
                  simp only [execOp, hop, h2, Sem.run_bind, Sem.run_pure, Result.andThen_ok, h3, h4]
                simp only [Oper.wp, this, Oper.upon]
                refine h5.mono fun e w' ⟨v', θ', he, hv, hk, hx⟩ => ?_
                subst he
                exact hK _ _ _ hk ((tr.mono hx.le).put hT hv) hx.to0 (fun m hm _ => hx.old m hm) (dk.put _ _)
              · cases h
            · cases h
          · cases h
        · rename_i c hop
          split at h
          · rename_i f args hc
            split at h
            · rename_i n T' hidle hT
              split at h
              · rename_i hlen
                have hlen := eqN _ _ hlen
                cases h
                refine ⟨rfl, fun i θ B w a Q K hi hnm k tr dk hK => ?_⟩
                rw [wanted_sound tr all o] at hw
                obtain ⟨args', d, h1, h2, ⟨fv, cap, h4⟩, h3⟩ := callee_sound (P := P) tr k.glob hc
                refine wop hi hw ?_
                have : (execOp a.eval o).run P w = .ok (.defer d) w := by
                  simp only [execOp, hop, h2, Sem.run_bind, Sem.run_pure, Result.andThen_ok]
                simp only [Oper.wp, this, Oper.upon]
                obtain ⟨h5, h6⟩ := hE.idle f n hidle args'.toArray (by simp [h1.length, hlen])
                have hd : DefOk P d := ⟨fv, cap, f, args'.toArray, h4, fun w => by rw [h3]; exact h5 w, h6⟩
                have htr : TR θ nt T' (({ a with defers := d :: a.defers } : Act).put o.dst undef) := by
                  have := TR.put (a := { a with defers := d :: a.defers }) ⟨fun t => tr.get t, tr.size⟩ hT VR.undef
                  exact this
                refine hK θ _ w k htr (.refl _ _ _) (fun _ _ _ => rfl) (DefsOk.put (a := { a with defers := d :: a.defers }) (fun x hx => ?_) _ _)
                rcases List.mem_cons.1 hx with rfl | hx
                · exact hd
                · exact dk x hx
              · cases h
            · cases h
          · cases h
        · cases h

theorem so_ops {fuel : Nat} (ih : ∀ nt k S out, run E cr fuel nt k S = some out → Sound P nt k S out) {nt : Nat} {all todo : List Oper} {T : Tr AV} {S : St} {out : Out} (h : run E cr (fuel + 1) nt (.ops all todo T) S = some out) :
    Sound P nt (.ops all todo T) S out := by
  cases todo with
  | nil =>
    simp only [run, rCode, rOps, rCall, rDefer, rEff, rOp, rAny, rFun, rRegion, rHeld] at h
    cases h
    exact ⟨rfl, fun i θ B w a Q ht k tr dk hQ => hQ a w ⟨rfl, θ, k, tr, .refl _ _ _, dk⟩⟩
  | cons o rest =>
    simp only [run, rCode, rOps, rCall, rDefer, rEff, rOp, rAny, rFun, rRegion, rHeld] at h
    split at h
    · rename_i T1 S1 h1
      obtain ⟨_, s1⟩ := ih _ _ _ _ h1
      have s2 := ih _ _ _ _ h
      cases out with
      | call v S2 => exact s2.elim
      | code e T2 S2 =>
        obtain ⟨rfl, s2⟩ := s2
        refine ⟨rfl, fun i θ B w a Q ht k tr dk hQ => ?_⟩
        have hget : all[i]? = some o := by
          have := congrArg (·[0]?) ht
          simpa [List.getElem?_drop] using this.symm
        rw [List.length_cons, List.range'_succ, wpOps_cons]
        refine s1 i θ B w a Q _ hget (fun m h => by cases h) k tr dk fun θ' a' w' k' tr' x' ho dk' => ?_
        have xx : Ext θ S w θ' S1 w' := x'.to fun m hm => ho m hm (by simp)
        refine s2 (i + 1) θ' B w' a' Q (by rw [← List.tail_drop, ← ht]; rfl) k' tr' dk' fun a'' w'' ⟨_, θ'', k'', tr'', x'', dk''⟩ => ?_
        exact hQ a'' w'' ⟨rfl, θ'', k'', tr'', xx.trans x'', dk''⟩
    · cases h

theorem so_any (hE : EnvOk P E) (hv : ∀ f args S out, cr f args S = some out → Ver S out.st) {fuel : Nat} (ih : ∀ nt k S out, run E cr fuel nt k S = some out → Sound P nt k S out) {nt : Nat} {ops : Array Oper} {all : List Oper} {n base : Nat} {H : Hold} {todo : List (Nat × Oper)} {T : Tr AV} {S : St} {out : Out}
    (h : run E cr (fuel + 1) nt (.any ops all n base H todo T) S = some out) : Sound P nt (.any ops all n base H todo T) S out := by
  cases todo with
  | nil =>
    simp only [run, rCode, rOps, rCall, rDefer, rEff, rOp, rAny, rFun, rRegion, rHeld] at h
    cases h
    refine ⟨rfl, fun θ θ0 B w a listed fw Q e1 e2 lt hl hns hok hle h0 k tr dk h64 hb hfr hQ hP => ?_⟩
    subst e1; subst e2
    refine wpAnyL_done ?_ (hQ θ a w k tr (.refl _ _ _) (fun _ _ => rfl) dk) fw
    cases hr : Region.ready .any all.toArray listed with
    | nil => rfl
    | cons i r =>
      have : i ∈ Region.ready .any all.toArray listed := by rw [hr]; exact List.mem_cons_self ..
      obtain ⟨o, ho⟩ := (ready_iff lt i).1 this
      simp [readyA] at ho
  | cons p todo =>
    simp only [run, rCode, rOps, rCall, rDefer, rEff, rOp, rAny, rFun, rRegion, rHeld] at h
    split at h
    · rename_i i o v hcalm
      split at h
      · rename_i T' hT
        have s2 := ih _ _ _ _ h
        obtain ⟨hmem, hcv, hfree⟩ := calmA_spec hcalm
        cases out with
        | call v S2 => exact s2.elim
        | code e T2 S2 =>
          obtain ⟨rfl, s2⟩ := s2
          refine ⟨rfl, fun θ θ0 B w a listed fw Q e1 e2 lt hl hns hok hle h0 k tr dk h64 hb hfr hQ hP => ?_⟩
          subst e1; subst e2
          obtain ⟨fw, rfl⟩ : ∃ k, fw = k + 1 := ⟨fw - 1, by simp at hl; omega⟩
          have hin := (mem_readyA.1 hmem).1
          have hget := lt.get i o hin
          have hilt : i < all.length := (List.getElem?_eq_some_iff.1 hget).1
          have h0i : memN i H.late = false → HR θ0 B H.tree.get w := fun hli => h0 ⟨i, o, hin, hli⟩
          obtain ⟨v', S', hv, hy, hS', hk⟩ := calm_sound hE.ty tr k.glob hle hcv h0i
          refine wpAnyL_first (S' := S') (by simpa using hget) (fun j oj cs b hj => ?_) (fun c a w hq => (hP _ _ _ hq).elim) (fun hli j oj hj hno => ?_) hk fw listed a w (fun j oj hj hne hun hno => ?_) ((ready_iff lt i).2 ⟨o, hmem⟩) hy hS' ?_ h0i
          · have hj : all[j]? = some oj := by simpa using hj
            exact noSel_spec hns oj (List.mem_of_getElem? hj) cs b
          · have hj : all[j]? = some oj := by simpa using hj
            cases hlj : memN j H.late with
            | false => rfl
            | true =>
              obtain ⟨e, he, hbd, hon⟩ := hok.late j oj hj hlj i hilt hli
              exact (hno e he hbd hon).elim
          · have hj : all[j]? = some oj := by simpa using hj
            have hlt : j < all.length := (List.getElem?_eq_some_iff.1 hj).1
            obtain ⟨oj', ho'⟩ := (lt.mem j hlt).1 hun
            have := lt.get j oj' ho'
            rw [hj] at this
            cases this
            exact freeA_spec hfree j oj ho' hne hno
          · refine s2 θ θ0 B w _ _ fw Q rfl rfl (lt.drop i) (by have := dropA_lt hin; omega) hns hok hle (fun ⟨j, oj, hj, hlj⟩ => h0 ⟨j, oj, (mem_dropA.1 hj).1, hlj⟩) k (tr.put hT hv) (dk.put _ _) h64 hb (fun j oj hj => hfr j oj (mem_dropA.1 hj).1) hQ hP
      · cases h
    · rename_i hcalm
      obtain ⟨T1, S1, rfl, hne, _, hall⟩ := pickSame_eq h
      refine ⟨rfl, fun θ θ0 B w a listed fw Q e1 e2 lt hl hns hok hle h0 k tr dk h64 hb hfr hQ hP => ?_⟩
      subst e1; subst e2
      obtain ⟨fw, rfl⟩ : ∃ k, fw = k + 1 := ⟨fw - 1, by simp at hl; omega⟩
      refine ⟨fun hr => ?_, fun i hi => ?_⟩
      · cases hra : readyA all.length (p :: todo) (p :: todo) with
        | nil => rw [hra] at hne; exact (hne rfl).elim
        | cons q r =>
          have : q.1 ∈ Region.ready .any all.toArray listed := (ready_iff lt q.1).2 ⟨q.2, by rw [hra]; exact List.mem_cons_self ..⟩
          rw [hr] at this; cases this
      · obtain ⟨o, ho⟩ := (ready_iff lt i).1 hi
        have hin := (mem_readyA.1 ho).1
        have hget := lt.get i o hin
        have hilt : i < all.length := (List.getElem?_eq_some_iff.1 hget).1
        have hx := hall _ (List.mem_map.2 ⟨(i, o), ho, rfl⟩)
        have hrun : ∃ T2 S2, run E cr fuel nt (.op all o (some (base + i)) T) S = some (.code .normal T2 S2) ∧ (memN i H.late || keptA S2.heap H.objs) = true ∧ run E cr fuel nt (.any all.toArray all all.length base H (dropA i (p :: todo)) T2) S2 = some (.code .normal T1 S1) := by
          simp only at hx
          split at hx
          · rename_i T2 S2 h2
            split at hx
            · rename_i hkept
              rcases hx with hx | ⟨S3, hx, he⟩
              · exact ⟨T2, S2, h2, hkept, hx⟩
              · have v1 : Ver S S3 := (run_ver E hv _ _ _ _ _ h2).trans (run_ver E hv _ _ _ _ _ hx)
                have v0 : Ver S S1 := run_ver E hv (fuel + 1) nt (.any all.toArray all all.length base H (p :: todo) T) S (.code .normal T1 S1) (by simp only [run, rCode, rOps, rCall, rDefer, rEff, rOp, rAny, rFun, rRegion, rHeld]; rw [hcalm]; exact h)
                have := eqSt_eq v0 v1 he
                subst this
                exact ⟨T2, S2, h2, hkept, hx⟩
            · rcases hx with hx | ⟨S3, hx, _⟩ <;> cases hx
          · rcases hx with hx | ⟨S3, hx, _⟩ <;> cases hx
        obtain ⟨T2, S2, h2, hkept, h3⟩ := hrun
        obtain ⟨_, s1⟩ := ih _ _ _ _ h2
        obtain ⟨_, s2⟩ := ih _ _ _ _ h3
        refine s1 i θ B w a Q _ hget (fun m hm => by cases hm; exact ⟨hfr i o hin, by omega, by omega⟩) k tr dk fun θ' a' w' k' tr' x' hold dk' => ?_
        have hS : memN i H.late = false → HR θ0 B H.tree.get w' := fun hli => by
          rw [hli] at hkept
          exact hold_again hok (hle.trans x'.le) (h0 ⟨i, o, hin, hli⟩) k' (by simpa using hkept)
        have h0' : (∃ j oj, (j, oj) ∈ dropA i (p :: todo) ∧ memN j H.late = false) → HR θ0 B H.tree.get w' := fun ⟨j, oj, hj, hlj⟩ => by
          cases hli : memN i H.late with
          | false => exact hS hli
          | true =>
            obtain ⟨hj1, hj2⟩ := mem_dropA.1 hj
            have hjl : j < all.length := (List.getElem?_eq_some_iff.1 (lt.get j oj hj1)).1
            obtain ⟨e, he, hbd, hon⟩ := hok.late i o hget hli j hjl hlj
            have := mem_edges.1 (mem_readyA.1 ho).2 e (by simpa using he) hbd
            rw [hon] at this
            exact (this.2 ⟨oj, hj1⟩).elim
        refine ⟨hS, s2 θ' θ0 B w' a' _ fw Q rfl rfl (lt.drop i) (by have := dropA_lt hin; omega) hns hok (hle.trans x'.le) h0' k' tr' dk' h64 (Nat.le_trans hb x'.next) (fun j oj hj => ?_) (fun θ'' a'' w'' k'' tr'' x'' hold'' dk'' => ?_) hP⟩
        · obtain ⟨hj1, hj2⟩ := mem_dropA.1 hj
          have hjl : j < all.length := (List.getElem?_eq_some_iff.1 (lt.get j oj hj1)).1
          rw [hold (base + j) (by omega) (by intro e; have := Option.some.inj e; omega)]
          exact hfr j oj hj1
        · exact hQ θ'' a'' w'' k'' tr'' (x'.trans x'') (fun m hm => (hold'' m hm).trans (hold m (by omega) (by intro e; have := Option.some.inj e; omega))) dk''

theorem so_loop {nt : Nat} {b : Code} : ∀ (fuel : Nat) (T : Tr AV) (S : St) (out : Out), (∀ m, m < fuel → ∀ nt k S out, run E cr m nt k S = some out → Sound P nt k S out) → run E cr fuel nt (.code (.loop b) T) S = some out →
    ∃ e T' S', out = .code e T' S' ∧ ∃ n, ∀ θ B w a, SR θ B S w → TR θ nt T a → DefsOk P a → Code.rounds P b (CodePost P B nt θ S w e T' S') n a w := by
  intro fuel
  induction fuel with
  | zero => intro T S out _ h; simp [run, rCode, rOps, rCall, rDefer, rEff, rOp, rAny, rFun, rRegion, rHeld] at h
  | succ fuel ihf =>
    intro T S out ih h
    simp only [run, rCode, rOps, rCall, rDefer, rEff, rOp, rAny, rFun, rRegion, rHeld] at h
    split at h
    · rename_i T1 S1 h1
      have s1 := ih fuel (Nat.lt_succ_self _) _ _ _ _ h1
      obtain ⟨e, T', S', rfl, n, hn⟩ := ihf T1 S1 out (fun m hm => ih m (Nat.lt_succ_of_lt hm)) h
      refine ⟨e, T', S', rfl, n + 1, fun θ B w a k tr dk => ?_⟩
      rw [rounds_succ]
      refine wp_mono (s1 θ B w a k tr dk) fun x a' w' ⟨he, θ', k', tr', x', dk'⟩ => ?_
      subst he
      have := hn θ' B w' a' k' tr' dk'
      have hm : ∀ n a w0, Code.rounds P b (CodePost P B nt θ' S1 w' e T' S') n a w0 → Code.rounds P b (CodePost P B nt θ S w e T' S') n a w0 := by
        intro n
        induction n with
        | zero => exact fun _ _ h => h
        | succ n ih2 =>
          intro a w0 h
          rw [rounds_succ] at h ⊢
          refine wp_mono h fun x a2 w2 hq => ?_
          have hpost : ∀ {x}, CodePost P B nt θ' S1 w' e T' S' x a2 w2 → CodePost P B nt θ S w e T' S' x a2 w2 := fun ⟨h1, θ2, h2, h3, h4, h5⟩ => ⟨h1, θ2, h2, h3, x'.trans h4, h5⟩
          cases x <;> first | exact ih2 _ _ hq | exact hpost hq
      exact hm _ _ _ this
    · rename_i hno
      have s1 := ih fuel (Nat.lt_succ_self _) _ _ _ _ h
      cases out with
      | call v S2 => exact s1.elim
      | code e T2 S2 =>
        refine ⟨e, T2, S2, rfl, 1, fun θ B w a k tr dk => ?_⟩
        rw [rounds_succ]
        refine wp_mono (s1 θ B w a k tr dk) fun x a' w' ⟨he, hr⟩ => ?_
        cases e with
        | normal => exact (hno _ _ h).elim
        | exit id => subst he; exact ⟨rfl, hr⟩
        | ret => subst he; exact ⟨rfl, hr⟩

theorem so_code (hE : EnvOk P E) {fuel : Nat} (ihs : ∀ m, m < fuel + 1 → ∀ nt k S out, run E cr m nt k S = some out → Sound P nt k S out) {nt : Nat} {c : Code} {T : Tr AV} {S : St} {out : Out} (h : run E cr (fuel + 1) nt (.code c T) S = some out) :
    Sound P nt (.code c T) S out := by
  have ih := ihs fuel (Nat.lt_succ_self _)
  have h0 := h
  have chain : ∀ {B : Nat} {θ θ' : Th} {S' : St} {w w' w'' : World} {e : AExit} {T2 : Tr AV} {S2 : St} {x : Exit} {a : Act}, Ext θ S w θ' S' w' → CodePost P B nt θ' S' w' e T2 S2 x a w'' → CodePost P B nt θ S w e T2 S2 x a w'' :=
    fun hx ⟨h1, θ2, h2, h3, h4, h5⟩ => ⟨h1, θ2, h2, h3, hx.trans h4, h5⟩
  cases c <;> simp only [run, rCode, rOps, rCall, rDefer, rEff, rOp, rAny, rFun, rRegion, rHeld] at h
  case skip => cases h; exact fun θ B w a k tr dk => wp_skip ⟨rfl, θ, k, tr, .refl _ _ _, dk⟩
  case label => cases h; exact fun θ B w a k tr dk => wp_label ⟨rfl, θ, k, tr, .refl _ _ _, dk⟩
  case exit => cases h; exact fun θ B w a k tr dk => wp_exit ⟨rfl, θ, k, tr, .refl _ _ _, dk⟩
  case ret => cases h; exact fun θ B w a k tr dk => wp_ret ⟨rfl, θ, k, tr, .refl _ _ _, dk⟩
  case seq x y =>
    split at h
    · rename_i T1 S1 h1
      have s1 := ih _ _ _ _ h1
      have s2 := ih _ _ _ _ h
      cases out with
      | call v S2 => exact s2.elim
      | code e T2 S2 =>
        intro θ B w a k tr dk
        refine wp_seq (wp_mono (s1 θ B w a k tr dk) fun x a' w' ⟨he, θ', k', tr', x', dk'⟩ => ?_)
        subst he
        exact wp_mono (s2 θ' B w' a' k' tr' dk') fun _ _ _ hp => chain x' hp
    · rename_i hno
      have s1 := ih _ _ _ _ h
      cases out with
      | call v S2 => exact s1.elim
      | code e T2 S2 =>
        intro θ B w a k tr dk
        refine wp_seq (wp_mono (s1 θ B w a k tr dk) fun x a' w' hp => ?_)
        obtain ⟨he, hr⟩ := hp
        cases e with
        | normal => exact (hno _ _ h).elim
        | exit id => subst he; exact ⟨rfl, hr⟩
        | ret => subst he; exact ⟨rfl, hr⟩
  case cond o x y =>
    have hc : ∀ (b : Bool), ev T o = some (.bool b) → ∀ θ B w a, SR θ B S w → TR θ nt T a → a.eval o = .bool b := fun b hb θ B w a k tr => by
      have := ev_sound tr k.glob hb
      generalize a.eval o = v at this
      cases this
      rfl
    split at h
    · rename_i hb
      have s1 := ih _ _ _ _ h
      cases out with
      | call v S2 => exact s1.elim
      | code e T2 S2 => exact fun θ B w a k tr dk => wp_cond_true (hc _ hb θ B w a k tr) (s1 θ B w a k tr dk)
    · rename_i hb
      have s1 := ih _ _ _ _ h
      cases out with
      | call v S2 => exact s1.elim
      | code e T2 S2 => exact fun θ B w a k tr dk => wp_cond_false (hc _ hb θ B w a k tr) (s1 θ B w a k tr dk)
    · cases h
  case block id b =>
    split at h
    · rename_i id' T1 S1 h1
      have s1 := ih _ _ _ _ h1
      split at h
      · rename_i hid
        have hid := eqN _ _ hid
        cases h
        intro θ B w a k tr dk
        refine wp_block (wp_mono (s1 θ B w a k tr dk) fun x a' w' ⟨he, hr⟩ => ?_)
        subst he
        simp only [AExit.out, Exit.inBlock, hid, if_true]
        exact ⟨rfl, hr⟩
      · rename_i hid
        have hid : ¬ id' = id := fun e => by rw [e, Nat.beq_refl] at hid; cases hid
        cases h
        intro θ B w a k tr dk
        refine wp_block (wp_mono (s1 θ B w a k tr dk) fun x a' w' ⟨he, hr⟩ => ?_)
        subst he
        simp only [AExit.out, Exit.inBlock, hid, if_false]
        exact ⟨rfl, hr⟩
    · rename_i hno
      have s1 := ih _ _ _ _ h
      cases out with
      | call v S2 => exact s1.elim
      | code e T2 S2 =>
        intro θ B w a k tr dk
        refine wp_block (wp_mono (s1 θ B w a k tr dk) fun x a' w' hp => ?_)
        obtain ⟨he, hr⟩ := hp
        cases e with
        | normal => subst he; exact ⟨rfl, hr⟩
        | exit id => exact (hno _ _ _ h).elim
        | ret => subst he; exact ⟨rfl, hr⟩
  case loop b =>
    obtain ⟨e, T', S', rfl, n, hn⟩ := so_loop (fuel + 1) T S out ihs h0
    exact fun θ B w a k tr dk => wp_loop_rounds n (hn θ B w a k tr dk)
  case region id ops d =>
    cases d with
    | false =>
      have s1 := ih _ _ _ _ h
      cases out with
      | call v S2 => exact s1.elim
      | code e T2 S2 =>
        obtain ⟨rfl, s1⟩ := s1
        intro θ B w a k tr dk
        refine wp_region ?_
        have := s1 0 θ B w a (CodePost P B nt θ S w .normal T2 S2) rfl k tr dk fun a' w' hp => hp
        simpa [List.range_eq_range'] using this
    | true =>
      simp only at h
      split at h
      · rename_i hns
        obtain ⟨hh, n, y, r⟩ := S
        simp only at h
        rw [fN_eq] at h
        have key : ∀ {H : Hold}, HoldOk ops.toList H → keptA hh H.objs = true → run E cr fuel nt (.any ops ops.toList ops.toList.length n H (numA ops.toList 0) T) ⟨hh, n + ops.toList.length, y, r⟩ = some out → Sound P nt (.code (.region id ops true) T) ⟨hh, n, y, r⟩ out := by
          intro H hok hkept h
          have s1 := ih _ _ _ _ h
          cases out with
          | call v S2 => exact s1.elim
          | code e T2 S2 =>
            obtain ⟨rfl, s1⟩ := s1
            intro θ B w a k tr dk
            refine wp_region_any hE.mixed (wpAny_of_L (S := HR θ B H.tree.get) (late := fun j => memN j H.late) _ _ _ _ ?_)
            have k2 : SR θ B ⟨hh, n + ops.toList.length, y, r⟩ { w with drawn := w.drawn + 1 } :=
              ⟨k.congr (w' := { w with drawn := w.drawn + 1 }) rfl |>.hr, fun m hm => k.next m (by have hm : n + ops.toList.length ≤ m := hm; show n ≤ m; omega), k.syms, by have := k.base; show 64 ≤ n + _; have h1 : 64 ≤ n := this; omega, k.glob, k.size⟩
            refine s1 θ θ B _ a _ _ (CodePost P B nt θ ⟨hh, n, y, r⟩ w .normal T2 S2) (by simp) rfl (by have := LT.start ops.toList; simpa using this) (by rw [numA_length]; simp) (by assumption) hok (.refl _) (fun _ => k2.hr.sub fun m o hm => keptA_spec hkept m o (hok.tree m o hm)) k2 tr dk k.base (Nat.le_refl _)
              (fun i o _ => k.next _ (Nat.le_add_right _ _)) (fun θ' a' w' k' tr' x' hold dk' => ?_) (fun c a w hp => by cases hp.1)
            exact ⟨rfl, θ', k', tr', ⟨x'.le, x'.os, x'.tape, x'.output, x'.size, x'.keep, x'.own, Nat.le_trans (Nat.le_add_right _ _) x'.next, hold⟩, dk'⟩
        split at h
        · rename_i h1
          cases h
          split at h1
          · rename_i H hH
            exact key (holdA_ok hH).1 (holdA_ok hH).2 h1
          · cases h1
        · split at h
          · rename_i h1
            cases h
            split at h1
            · rename_i H hH
              exact key (holdA_ok hH).1 (holdA_ok hH).2 h1
            · cases h1
          · exact key (holdNone_ok _) rfl h
      · cases h
  all_goals cases h

theorem so_call (hE : EnvOk P E) {rec : Nat → Task → St → Option Out} (ih : ∀ nt k S out, rec nt k S = some out → Sound P nt k S out) {nt : Nat} {f : FuncId} {args : List AV} {S : St} {out : Out} (h : rFun E rec f args S = some out) :
    Sound P nt (.call f args) S out := by
  simp only [rFun] at h
  split at h
  · rename_i v hv
    rw [fV_eq] at h
    cases h
    obtain ⟨h1, h2⟩ := hE.known f args S.heap v hv
    refine fun θ B w args' k ha => ⟨h1, (h2 θ B S args' w rfl k ha).mono fun e w' ⟨v', he, hv', hb⟩ => ?_⟩
    obtain ⟨k', x'⟩ := k.grow hb
    exact ⟨v', θ, he, hv', k', x'⟩
  · cases h
  · split at h
    · cases h
    · rename_i fn hfn
      obtain ⟨hf, hc⟩ := hE.fn f fn hfn
      split at h
      · cases h
      · rename_i c hbody
        split at h
        · cases h
        · rename_i hle
          have hle := Nat.le_of_ble_eq_true hle
          rw [argsT_eq] at h
          have hrun : ∃ e T2 S2 vs, (e = .normal ∨ e = .ret) ∧ rec fn.ntmps (.code c (setArgs args 0 .nil)) S = some (.code e T2 S2) ∧ resA E.ty S2.heap T2 fn.results.toList = some vs ∧ out = .call (oneA vs) S2 := by
            split at h
            · rename_i T2 S2 h1
              split at h
              · rename_i vs hvs; cases h; exact ⟨_, T2, S2, vs, .inl rfl, h1, hvs, rfl⟩
              · cases h
            · rename_i T2 S2 h1
              split at h
              · rename_i vs hvs; cases h; exact ⟨_, T2, S2, vs, .inr rfl, h1, hvs, rfl⟩
              · cases h
            · cases h
          obtain ⟨e, T2, S2, vs, he, h1, hvs, rfl⟩ := hrun
          have s1 := ih _ _ _ _ h1
          refine fun θ B w args' k ha => ⟨hc, ?_⟩
          have hal := ha.length
          have tr : TR θ fn.ntmps (setArgs args 0 .nil) { tmps := args'.toArray ++ Array.replicate (fn.ntmps - args'.toArray.size) undef, defers := [] } := by
            refine ⟨fun t => ?_, by simp; omega⟩
            rw [setArgs_get]
            simp only [Nat.not_lt_zero, if_false, Nat.sub_zero, Tr.get_nil]
            have hget : ∀ (l : List AV) (l' : List Value) (t : Nat), VRs θ l l' → VR θ ((l[t]?).getD undefA) ((l'[t]?).getD undef) := by
              intro l l' t h
              cases hl : l[t]? with
              | none =>
                have := h.length
                rw [List.getElem?_eq_none (by have := List.getElem?_eq_none_iff.1 hl; omega)]
                exact VR.undef
              | some v =>
                obtain ⟨v', h1, h2⟩ := h.get (by rw [listGet_eq]; exact hl)
                rw [h1]; exact h2
            have h2 := hget args args' t ha
            have e2 : (({ tmps := args'.toArray ++ Array.replicate (fn.ntmps - args'.toArray.size) undef, defers := [] } : Act).tmps.getD t undef) = (args'[t]?).getD undef := by
              simp only [Array.getD_eq_getD_getElem?, Array.getElem?_append, List.size_toArray, List.getElem?_toArray]
              split
              · rfl
              · rename_i hge
                rw [List.getElem?_eq_none (by omega)]
                simp only [Array.getElem?_replicate]
                split <;> rfl
            rw [e2]
            cases hat : args[t]? with
            | none => rw [hat] at h2; exact h2
            | some v => rw [hat] at h2; exact h2
          refine calls_of_wp_defers hf hbody (wp_mono (s1 θ B w _ k tr (fun d hd => by cases hd)) fun x a' w' ⟨hx, θ', k', tr', x', dk'⟩ => ?_)
          have hleave : Leaves P fn a'.tmps (fun e w' => ∃ v' θ', e = .returned v' ∧ VR θ' (oneA vs) v' ∧ SR θ' B S2 w' ∧ Ext θ S w θ' S2 w') a'.defers .returning w' := by
            refine leaves_ok a'.defers w' dk' fun w2 hb => ?_
            obtain ⟨k2, x2⟩ := k'.grow hb
            obtain ⟨v', h3, h4⟩ := results_sound (P := P) hE.ty k2 tr' hvs
            exact ⟨v', h3, v', θ', rfl, h4, k2, x'.trans x2⟩
          rcases he with rfl | rfl
          · subst hx; exact hleave
          · subst hx; exact hleave

/-- **What the executor says is what the program does.** -/
theorem run_sound (hE : EnvOk P E) (hv : ∀ f args S out, cr f args S = some out → Ver S out.st) (hs : ∀ nt f args S out, cr f args S = some out → Sound P nt (.call f args) S out) :
    ∀ (fuel nt : Nat) (k : Task) (S : St) (out : Out), run E cr fuel nt k S = some out → Sound P nt k S out := by
  intro fuel
  induction fuel using Nat.strongRecOn with
  | _ fuel ihs =>
    intro nt k S out h
    cases fuel with
    | zero => simp [run, rCode, rOps, rCall, rDefer, rEff, rOp, rAny, rFun, rRegion, rHeld] at h
    | succ fuel =>
      have ih := ihs fuel (Nat.lt_succ_self _)
      cases k with
      | code c T => exact so_code hE ihs h
      | ops all todo T => exact so_ops ih h
      | op all o nm T => exact so_op hE ih h
      | any ops all n base todo T => exact so_any hE hv ih h
      | call f args =>
        simp only [run] at h
        exact hs _ _ _ _ _ h

/-- What is said of calls beforehand is right. -/
structure MemoOk (P : Program) (memo : FuncId → List AV → St → Option Out) : Prop where
  ver : ∀ f args S out, memo f args S = some out → Ver S out.st
  sound : ∀ nt f args S out, memo f args S = some out → Sound P nt (.call f args) S out

theorem noMemo_ok (P : Program) : MemoOk P noMemo where
  ver := fun f args S out h => by simp [noMemo] at h
  sound := fun nt f args S out h => by simp [noMemo] at h

theorem calls_sound (hE : EnvOk P E) {memo : FuncId → List AV → St → Option Out} (hm : MemoOk P memo) {N : Nat} :
    ∀ (d nt : Nat) (f : FuncId) (args : List AV) (S : St) (out : Out), calls E memo N d f args S = some out → Sound P nt (.call f args) S out
  | 0, _, _, _, _, _, h => by simp [calls] at h
  | d + 1, nt, f, args, S, out, h => by
    unfold calls at h
    split at h
    · rename_i o ho
      cases h
      exact hm.sound _ _ _ _ _ ho
    · exact so_call hE (run_sound hE (calls_ver E hm.ver d) (fun nt f args S out h => calls_sound hE hm d nt f args S out h) N) h

/-- A function called with nothing known but the program's variables. -/
theorem call_sound (hE : EnvOk P E) {memo : FuncId → List AV → St → Option Out} (hm : MemoOk P memo) {N d : Nat} {f : FuncId} {args : List AV} {S S' : St} {v : AV} (h : calls E memo N d f args S = some (.call v S')) {θ : Th} {w : World} {args' : List Value} (k : SR θ w.heap.size S w) (ha : VRs θ args args') :
    Calls P f args'.toArray w (fun e w' => ∃ v' θ', e = .returned v' ∧ VR θ' v v' ∧ SR θ' w.heap.size S' w' ∧ Below w.heap.size w w') :=
  ((calls_sound hE hm d 0 f args S _ h θ _ w args' k ha).2).mono fun e w' ⟨v', θ', he, hv, hk, hx⟩ => ⟨v', θ', he, hv, hk, hx.below k⟩
end
end Go.Exe
namespace Go.Exe
set_option linter.unusedSectionVars false
variable [Opn]

def Tr.All {α : Type} (R : Nat → α → Prop) : Tr α → (Nat → Nat) → Prop
  | .nil, _ => True
  | .node l v r, g => (match v with | none => True | some x => R (g 0) x) ∧ Tr.All R l (fun m => g (2 * m + 1)) ∧ Tr.All R r (fun m => g (2 * m + 2))

theorem Tr.All.get {α : Type} {R : Nat → α → Prop} : ∀ {t : Tr α} {g : Nat → Nat} {n : Nat} {x : α}, Tr.All R t g → t.get n = some x → R (g n) x
  | .nil, _, n, _, _, h => by rw [Tr.get_nil] at h; cases h
  | .node l v r, g, n, x, ha, h => by
    obtain ⟨h1, h2, h3⟩ := ha
    rw [Tr.get_node] at h
    cases n with
    | zero => simp only at h; subst h; exact h1
    | succ m =>
      simp only at h
      rcases Nat.mod_two_eq_zero_or_one m with hm | hm
      · rw [hm] at h
        have := h2.get h
        have e : 2 * (m / 2) + 1 = m + 1 := by omega
        rw [e] at this
        exact this
      · rw [hm] at h
        have := h3.get h
        have e : 2 * (m / 2) + 2 = m + 1 := by omega
        rw [e] at this
        exact this

theorem ty_of_all {P : Program} {ty : Tr TI} (h : Tr.All (fun t ti => TIok P t ti) ty (fun n => n)) : TyOk P ty := fun _ _ hg => h.get hg

def FnOk (P : Program) (f : FuncId) (fn : Func) : Prop := P.funcs[f]? = some fn ∧ ∀ args w, (callFunc f args).run P w = .ok (.enter f args) w
theorem fn_of_all {P : Program} {fn : Tr Func} (h : Tr.All (FnOk P) fn (fun n => n)) : ∀ f x, fn.get f = some x → P.funcs[f]? = some x ∧ ∀ args w, (callFunc f args).run P w = .ok (.enter f args) w := fun _ _ hg => h.get hg

theorem zero_of {z : Value} {l : List AV} (h : absL (absV 2) z.cells.toList = some l) : ∀ θ, VRs θ l z.cells.toList := fun _ => absL_sound (absV_sound 2) _ _ h
end Go.Exe
