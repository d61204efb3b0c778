/- The executor: the theorem. -/
import Derived.Test.YtlngchhjdnalbaaGreatDoorExeMain
import Derived.LoopN
set_option linter.unusedVariables false
set_option linter.unusedSimpArgs false
namespace Go.Exe
open Go.RowKit

section
variable {P : Program} {E : Env}

theorem leaves_ok {fn : Func} {tmps : Array Value} {R : Ending → World → Prop} : ∀ (ds : List Deferred) (w : World), (∀ d ∈ ds, DefOk P d) → (∀ w', Below w.heap.size w w' → ∃ v, (results fn tmps).run P w' = .ok v w' ∧ R (.returned v) w') →
    Leaves P fn tmps R ds .returning w
  | [], w, _, h => h w (.refl _ _)
  | d :: ds, w, hd, h => by
    obtain ⟨fv, cap, f, args, h1, h2, h3⟩ := hd d (List.mem_cons_self ..)
    refine ⟨by simp, fv, cap, f, args, h1, h2 w, ?_⟩
    refine (h3 w).mono fun e u w' ⟨⟨v, he⟩, hu, hb⟩ => ?_
    subst he; subst hu
    exact leaves_ok ds w' (fun d hd' => hd d (List.mem_cons_of_mem _ hd')) (fun w'' hb' => h w'' (hb.trans (hb'.mono hb.size)))

theorem so_op (hE : EnvOk P E) {fuel : Nat} (ih : ∀ nt k S out, run E fuel nt k S = some out → Sound P nt k S out) {nt : Nat} {all : List Oper} {o : Oper} {nm : Option Nat} {T : Tr AV} {S : St} {out : Out} (h : run E (fuel + 1) nt (.op all o nm T) S = some out) :
    Sound P nt (.op all o nm T) S out := by
  simp only [run, rCode, rOps, rCall, rDefer, rEff, rOp, rAny, rFun, rRegion, rHeld] at h
  have hend : ∀ {q : Bool} {T' : Tr AV} {v : AV}, putT q nt T o.dst v = some T' → out = .code .normal T' S → (∀ θ B w a, SR θ B S w → TR θ nt T a → DefsOk P a → ∀ Q K i, all[i]? = some o → (∀ v', VR θ v v' → K (a.put o.dst v') w) → wpOp P all.toArray Q i K a w) → Sound P nt (.op all o nm T) S out := by
    intro q T' v hT ho hrun
    subst ho
    refine ⟨rfl, fun i θ B w a Q K hi hnm k tr dk hK => hrun θ B w a k tr dk Q K i hi fun v' hv => ?_⟩
    exact hK θ _ w k (tr.put hT hv) (.refl _ _ _) (fun _ _ _ => rfl) (dk.put _ _)
  have wop : ∀ {Q : Exit → Act → World → Prop} {K : Act → World → Prop} {i : Nat} {a : Act} {w : World}, all[i]? = some o → Region.wanted o (yielded all.toArray a.tmps) = true → o.wp P a w K Q → wpOp P all.toArray Q i K a w := by
    intro Q K i a w hi hw hh
    unfold wpOp
    have : all.toArray[i]? = some o := by simpa using hi
    simp only [this, hw, if_true]
    exact .inl hh
  split at h
  · rename_i hw
    split at h
    · rename_i T' hT
      refine hend hT (by cases h; rfl) fun θ B w a k tr dk Q K i hi hK => ?_
      rw [wanted_sound tr all o] at hw
      unfold wpOp
      have : all.toArray[i]? = some o := by simpa using hi
      simp only [this, hw, Bool.false_eq_true, if_false]
      exact hK _ VR.undef
    · cases h
  · rename_i hw
    split at h
    · rename_i v hp
      split at h
      · rename_i T' hT
        refine hend hT (by cases h; rfl) fun θ B w a k tr dk Q K i hi hK => ?_
        rw [wanted_sound tr all o] at hw
        obtain ⟨v', h1, h2⟩ := pure_sound ⟨hE.ty, k.hr, tr, k.glob⟩ o hp
        refine wop hi hw ?_
        simp only [Oper.wp, h1, Oper.upon]
        exact hK v' h2
      · cases h
    · rename_i v ob hp
      split at h
      · rename_i T' hT
        split at h
        · rw [push_eq] at h
          cases h
          refine ⟨rfl, fun i θ B w a Q K hi hnm k tr dk hK => ?_⟩
          rw [wanted_sound tr all o] at hw
          obtain ⟨v', ob', h1, h2⟩ := pure_sound ⟨hE.ty, k.hr, tr, k.glob⟩ o hp
          refine wop hi hw ?_
          simp only [Oper.wp, h1, Oper.upon]
          have hle : θ.Le (θ.plus S.next w.heap.size S.syms none) := Th.plus_le (k.next _ (Nat.le_refl _)) (k.syms _ (Nat.le_refl _))
          obtain ⟨h3, h4, h5⟩ := h2 (θ.plus S.next w.heap.size S.syms none) hle (by simp [Th.plus])
          obtain ⟨s1, s2⟩ := SR.plus (r := Nat.succ S.ver) (k := k) (w' := w.alloc ob') (y := none) (sy := S.syms) (Nat.le_refl _) (fun _ _ _ => rfl) rfl rfl rfl rfl h4 h5
          exact hK _ _ _ s1 ((tr.mono hle).put hT h3) s2.to0 (fun m hm _ => s2.old m hm) (dk.put _ _)
        · rename_i m
          rw [pushAt_eq] at h
          cases h
          refine ⟨rfl, fun i θ B w a Q K hi hnm k tr dk hK => ?_⟩
          obtain ⟨n1, n2, n3⟩ := hnm m rfl
          rw [wanted_sound tr all o] at hw
          obtain ⟨v', ob', h1, h2⟩ := pure_sound ⟨hE.ty, k.hr, tr, k.glob⟩ o hp
          refine wop hi hw ?_
          simp only [Oper.wp, h1, Oper.upon]
          have hle : θ.Le (θ.at m w.heap.size) := Th.at_le n1
          obtain ⟨h3, h4, h5⟩ := h2 (θ.at m w.heap.size) hle (by simp [Th.at])
          obtain ⟨s1, s2, s3⟩ := SR.plusAt (Nat.succ S.ver) k n1 n2 n3 (w' := w.alloc ob') rfl rfl rfl rfl h4 h5
          exact hK _ _ _ s1 ((tr.mono hle).put hT h3) s2 (fun x _ hx => s3 x fun e => hx (by rw [e])) (dk.put _ _)
      · cases h
    · split at h
      · rename_i v S1 he
        split at h
        · rename_i T' hT
          cases h
          refine ⟨rfl, fun i θ B w a Q K hi hnm k tr dk hK => ?_⟩
          rw [wanted_sound tr all o] at hw
          obtain ⟨θ', w', r, v', h1, h2, h3, h4, h5⟩ := eff_sound hE.ty k tr o he
          refine wop hi hw ?_
          rcases h2 with rfl | ⟨rfl, rfl⟩
          · simp only [Oper.wp, h1, Oper.upon]
            exact hK _ _ _ h4 ((tr.mono h5.le).put hT h3) h5.to0 (fun m hm _ => h5.old m hm) (dk.put _ _)
          · simp only [Oper.wp, h1, Oper.upon]
            exact hK _ _ _ h4 ((tr.mono h5.le).put hT h3) h5.to0 (fun m hm _ => h5.old m hm) (dk.put _ _)
        · cases h
      · split at h
        · rename_i c hop
          split at h
          · rename_i f args hc
            split at h
            · rename_i v S1 hcall
              split at h
              · rename_i T' hT
                cases h
                refine ⟨rfl, fun i θ B w a Q K hi hnm k tr dk hK => ?_⟩
                rw [wanted_sound tr all o] at hw
                obtain ⟨args', d, h1, h2, _, h3⟩ := callee_sound (P := P) tr k.glob hc
                obtain ⟨h4, h5⟩ := ih _ _ _ _ hcall θ B w args' k h1
                refine wop hi hw ?_
                have : (execOp a.eval o).run P w = .ok (.enter f args'.toArray) w := by
                  simp only [execOp, hop, h2, Sem.run_bind, Sem.run_pure, Result.andThen_ok, h3, h4]
                simp only [Oper.wp, this, Oper.upon]
                refine h5.mono fun e w' ⟨v', θ', he, hv, hk, hx⟩ => ?_
                subst he
                exact hK _ _ _ hk ((tr.mono hx.le).put hT hv) hx.to0 (fun m hm _ => hx.old m hm) (dk.put _ _)
              · cases h
            · cases h
          · cases h
        · rename_i c hop
          split at h
          · rename_i f args hc
            split at h
            · rename_i n T' hidle hT
              split at h
              · rename_i hlen
                have hlen := eqN _ _ hlen
                cases h
                refine ⟨rfl, fun i θ B w a Q K hi hnm k tr dk hK => ?_⟩
                rw [wanted_sound tr all o] at hw
                obtain ⟨args', d, h1, h2, ⟨fv, cap, h4⟩, h3⟩ := callee_sound (P := P) tr k.glob hc
                refine wop hi hw ?_
                have : (execOp a.eval o).run P w = .ok (.defer d) w := by
                  simp only [execOp, hop, h2, Sem.run_bind, Sem.run_pure, Result.andThen_ok]
                simp only [Oper.wp, this, Oper.upon]
                obtain ⟨h5, h6⟩ := hE.idle f n hidle args'.toArray (by simp [h1.length, hlen])
                have hd : DefOk P d := ⟨fv, cap, f, args'.toArray, h4, fun w => by rw [h3]; exact h5 w, h6⟩
                have htr : TR θ nt T' (({ a with defers := d :: a.defers } : Act).put o.dst undef) := by
                  have := TR.put (a := { a with defers := d :: a.defers }) ⟨fun t => tr.get t, tr.size⟩ hT VR.undef
                  exact this
                refine hK θ _ w k htr (.refl _ _ _) (fun _ _ _ => rfl) (DefsOk.put (a := { a with defers := d :: a.defers }) (fun x hx => ?_) _ _)
                rcases List.mem_cons.1 hx with rfl | hx
                · exact hd
                · exact dk x hx
              · cases h
            · cases h
          · cases h
        · cases h

theorem so_ops {fuel : Nat} (ih : ∀ nt k S out, run E fuel nt k S = some out → Sound P nt k S out) {nt : Nat} {all todo : List Oper} {T : Tr AV} {S : St} {out : Out} (h : run E (fuel + 1) nt (.ops all todo T) S = some out) :
    Sound P nt (.ops all todo T) S out := by
  cases todo with
  | nil =>
    simp only [run, rCode, rOps, rCall, rDefer, rEff, rOp, rAny, rFun, rRegion, rHeld] at h
    cases h
    exact ⟨rfl, fun i θ B w a Q ht k tr dk hQ => hQ a w ⟨rfl, θ, k, tr, .refl _ _ _, dk⟩⟩
  | cons o rest =>
    simp only [run, rCode, rOps, rCall, rDefer, rEff, rOp, rAny, rFun, rRegion, rHeld] at h
    split at h
    · rename_i T1 S1 h1
      obtain ⟨_, s1⟩ := ih _ _ _ _ h1
      have s2 := ih _ _ _ _ h
      cases out with
      | call v S2 => exact s2.elim
      | code e T2 S2 =>
        obtain ⟨rfl, s2⟩ := s2
        refine ⟨rfl, fun i θ B w a Q ht k tr dk hQ => ?_⟩
        have hget : all[i]? = some o := by
          have := congrArg (·[0]?) ht
          simpa [List.getElem?_drop] using this.symm
        rw [List.length_cons, List.range'_succ, wpOps_cons]
        refine s1 i θ B w a Q _ hget (fun m h => by cases h) k tr dk fun θ' a' w' k' tr' x' ho dk' => ?_
        have xx : Ext θ S w θ' S1 w' := x'.to fun m hm => ho m hm (by simp)
        refine s2 (i + 1) θ' B w' a' Q (by rw [← List.tail_drop, ← ht]; rfl) k' tr' dk' fun a'' w'' ⟨_, θ'', k'', tr'', x'', dk''⟩ => ?_
        exact hQ a'' w'' ⟨rfl, θ'', k'', tr'', xx.trans x'', dk''⟩
    · cases h

theorem so_any (hE : EnvOk P E) {fuel : Nat} (ih : ∀ nt k S out, run E fuel nt k S = some out → Sound P nt k S out) {nt : Nat} {ops : Array Oper} {all : List Oper} {n base : Nat} {H : Hold} {todo : List (Nat × Oper)} {T : Tr AV} {S : St} {out : Out}
    (h : run E (fuel + 1) nt (.any ops all n base H todo T) S = some out) : Sound P nt (.any ops all n base H todo T) S out := by
  cases todo with
  | nil =>
    simp only [run, rCode, rOps, rCall, rDefer, rEff, rOp, rAny, rFun, rRegion, rHeld] at h
    cases h
    refine ⟨rfl, fun θ θ0 B w a listed fw Q e1 e2 lt hl hns hok hle h0 k tr dk h64 hb hfr hQ hP => ?_⟩
    subst e1; subst e2
    refine wpAnyL_done ?_ (hQ θ a w k tr (.refl _ _ _) (fun _ _ => rfl) dk) fw
    cases hr : Region.ready .any all.toArray listed with
    | nil => rfl
    | cons i r =>
      have : i ∈ Region.ready .any all.toArray listed := by rw [hr]; exact List.mem_cons_self ..
      obtain ⟨o, ho⟩ := (ready_iff lt i).1 this
      simp [readyA] at ho
  | cons p todo =>
    simp only [run, rCode, rOps, rCall, rDefer, rEff, rOp, rAny, rFun, rRegion, rHeld] at h
    split at h
    · rename_i i o v hcalm
      split at h
      · rename_i T' hT
        have s2 := ih _ _ _ _ h
        obtain ⟨hmem, hcv, hfree⟩ := calmA_spec hcalm
        cases out with
        | call v S2 => exact s2.elim
        | code e T2 S2 =>
          obtain ⟨rfl, s2⟩ := s2
          refine ⟨rfl, fun θ θ0 B w a listed fw Q e1 e2 lt hl hns hok hle h0 k tr dk h64 hb hfr hQ hP => ?_⟩
          subst e1; subst e2
          obtain ⟨fw, rfl⟩ : ∃ k, fw = k + 1 := ⟨fw - 1, by simp at hl; omega⟩
          have hin := (mem_readyA.1 hmem).1
          have hget := lt.get i o hin
          have hilt : i < all.length := (List.getElem?_eq_some_iff.1 hget).1
          have h0i : memN i H.late = false → HR θ0 B H.tree.get w := fun hli => h0 ⟨i, o, hin, hli⟩
          obtain ⟨v', S', hv, hy, hS', hk⟩ := calm_sound hE.ty tr k.glob hle hcv h0i
          refine wpAnyL_first (S' := S') (by simpa using hget) (fun j oj cs b hj => ?_) (fun c a w hq => (hP _ _ _ hq).elim) (fun hli j oj hj hno => ?_) hk fw listed a w (fun j oj hj hne hun hno => ?_) ((ready_iff lt i).2 ⟨o, hmem⟩) hy hS' ?_ h0i
          · have hj : all[j]? = some oj := by simpa using hj
            exact noSel_spec hns oj (List.mem_of_getElem? hj) cs b
          · have hj : all[j]? = some oj := by simpa using hj
            cases hlj : memN j H.late with
            | false => rfl
            | true =>
              obtain ⟨e, he, hbd, hon⟩ := hok.late j oj hj hlj i hilt hli
              exact (hno e he hbd hon).elim
          · have hj : all[j]? = some oj := by simpa using hj
            have hlt : j < all.length := (List.getElem?_eq_some_iff.1 hj).1
            obtain ⟨oj', ho'⟩ := (lt.mem j hlt).1 hun
            have := lt.get j oj' ho'
            rw [hj] at this
            cases this
            exact freeA_spec hfree j oj ho' hne hno
          · refine s2 θ θ0 B w _ _ fw Q rfl rfl (lt.drop i) (by have := dropA_lt hin; omega) hns hok hle (fun ⟨j, oj, hj, hlj⟩ => h0 ⟨j, oj, (mem_dropA.1 hj).1, hlj⟩) k (tr.put hT hv) (dk.put _ _) h64 hb (fun j oj hj => hfr j oj (mem_dropA.1 hj).1) hQ hP
      · cases h
    · rename_i hcalm
      obtain ⟨T1, S1, rfl, hne, _, hall⟩ := pickSame_eq h
      refine ⟨rfl, fun θ θ0 B w a listed fw Q e1 e2 lt hl hns hok hle h0 k tr dk h64 hb hfr hQ hP => ?_⟩
      subst e1; subst e2
      obtain ⟨fw, rfl⟩ : ∃ k, fw = k + 1 := ⟨fw - 1, by simp at hl; omega⟩
      refine ⟨fun hr => ?_, fun i hi => ?_⟩
      · cases hra : readyA all.length (p :: todo) (p :: todo) with
        | nil => rw [hra] at hne; exact (hne rfl).elim
        | cons q r =>
          have : q.1 ∈ Region.ready .any all.toArray listed := (ready_iff lt q.1).2 ⟨q.2, by rw [hra]; exact List.mem_cons_self ..⟩
          rw [hr] at this; cases this
      · obtain ⟨o, ho⟩ := (ready_iff lt i).1 hi
        have hin := (mem_readyA.1 ho).1
        have hget := lt.get i o hin
        have hilt : i < all.length := (List.getElem?_eq_some_iff.1 hget).1
        have hx := hall _ (List.mem_map.2 ⟨(i, o), ho, rfl⟩)
        have hrun : ∃ T2 S2, run E fuel nt (.op all o (some (base + i)) T) S = some (.code .normal T2 S2) ∧ (memN i H.late || keptA S2.heap H.objs) = true ∧ run E fuel nt (.any all.toArray all all.length base H (dropA i (p :: todo)) T2) S2 = some (.code .normal T1 S1) := by
          simp only at hx
          split at hx
          · rename_i T2 S2 h2
            split at hx
            · rename_i hkept
              rcases hx with hx | ⟨S3, hx, he⟩
              · exact ⟨T2, S2, h2, hkept, hx⟩
              · have v1 : Ver S S3 := (run_ver E _ _ _ _ _ h2).trans (run_ver E _ _ _ _ _ hx)
                have v0 : Ver S S1 := run_ver E (fuel + 1) nt (.any all.toArray all all.length base H (p :: todo) T) S (.code .normal T1 S1) (by simp only [run, rCode, rOps, rCall, rDefer, rEff, rOp, rAny, rFun, rRegion, rHeld]; rw [hcalm]; exact h)
                have := eqSt_eq v0 v1 he
                subst this
                exact ⟨T2, S2, h2, hkept, hx⟩
            · rcases hx with hx | ⟨S3, hx, _⟩ <;> cases hx
          · rcases hx with hx | ⟨S3, hx, _⟩ <;> cases hx
        obtain ⟨T2, S2, h2, hkept, h3⟩ := hrun
        obtain ⟨_, s1⟩ := ih _ _ _ _ h2
        obtain ⟨_, s2⟩ := ih _ _ _ _ h3
        refine s1 i θ B w a Q _ hget (fun m hm => by cases hm; exact ⟨hfr i o hin, by omega, by omega⟩) k tr dk fun θ' a' w' k' tr' x' hold dk' => ?_
        have hS : memN i H.late = false → HR θ0 B H.tree.get w' := fun hli => by
          rw [hli] at hkept
          exact hold_again hok (hle.trans x'.le) (h0 ⟨i, o, hin, hli⟩) k' (by simpa using hkept)
        have h0' : (∃ j oj, (j, oj) ∈ dropA i (p :: todo) ∧ memN j H.late = false) → HR θ0 B H.tree.get w' := fun ⟨j, oj, hj, hlj⟩ => by
          cases hli : memN i H.late with
          | false => exact hS hli
          | true =>
            obtain ⟨hj1, hj2⟩ := mem_dropA.1 hj
            have hjl : j < all.length := (List.getElem?_eq_some_iff.1 (lt.get j oj hj1)).1
            obtain ⟨e, he, hbd, hon⟩ := hok.late i o hget hli j hjl hlj
            have := mem_edges.1 (mem_readyA.1 ho).2 e (by simpa using he) hbd
            rw [hon] at this
            exact (this.2 ⟨oj, hj1⟩).elim
        refine ⟨hS, s2 θ' θ0 B w' a' _ fw Q rfl rfl (lt.drop i) (by have := dropA_lt hin; omega) hns hok (hle.trans x'.le) h0' k' tr' dk' h64 (Nat.le_trans hb x'.next) (fun j oj hj => ?_) (fun θ'' a'' w'' k'' tr'' x'' hold'' dk'' => ?_) hP⟩
        · obtain ⟨hj1, hj2⟩ := mem_dropA.1 hj
          have hjl : j < all.length := (List.getElem?_eq_some_iff.1 (lt.get j oj hj1)).1
          rw [hold (base + j) (by omega) (by intro e; have := Option.some.inj e; omega)]
          exact hfr j oj hj1
        · exact hQ θ'' a'' w'' k'' tr'' (x'.trans x'') (fun m hm => (hold'' m hm).trans (hold m (by omega) (by intro e; have := Option.some.inj e; omega))) dk''

theorem so_loop {nt : Nat} {b : Code} : ∀ (fuel : Nat) (T : Tr AV) (S : St) (out : Out), (∀ m, m < fuel → ∀ nt k S out, run E m nt k S = some out → Sound P nt k S out) → run E fuel nt (.code (.loop b) T) S = some out →
    ∃ e T' S', out = .code e T' S' ∧ ∃ n, ∀ θ B w a, SR θ B S w → TR θ nt T a → DefsOk P a → Code.rounds P b (CodePost P B nt θ S w e T' S') n a w := by
  intro fuel
  induction fuel with
  | zero => intro T S out _ h; simp [run, rCode, rOps, rCall, rDefer, rEff, rOp, rAny, rFun, rRegion, rHeld] at h
  | succ fuel ihf =>
    intro T S out ih h
    simp only [run, rCode, rOps, rCall, rDefer, rEff, rOp, rAny, rFun, rRegion, rHeld] at h
    split at h
    · rename_i T1 S1 h1
      have s1 := ih fuel (Nat.lt_succ_self _) _ _ _ _ h1
      obtain ⟨e, T', S', rfl, n, hn⟩ := ihf T1 S1 out (fun m hm => ih m (Nat.lt_succ_of_lt hm)) h
      refine ⟨e, T', S', rfl, n + 1, fun θ B w a k tr dk => ?_⟩
      rw [rounds_succ]
      refine wp_mono (s1 θ B w a k tr dk) fun x a' w' ⟨he, θ', k', tr', x', dk'⟩ => ?_
      subst he
      have := hn θ' B w' a' k' tr' dk'
      have hm : ∀ n a w0, Code.rounds P b (CodePost P B nt θ' S1 w' e T' S') n a w0 → Code.rounds P b (CodePost P B nt θ S w e T' S') n a w0 := by
        intro n
        induction n with
        | zero => exact fun _ _ h => h
        | succ n ih2 =>
          intro a w0 h
          rw [rounds_succ] at h ⊢
          refine wp_mono h fun x a2 w2 hq => ?_
          have hpost : ∀ {x}, CodePost P B nt θ' S1 w' e T' S' x a2 w2 → CodePost P B nt θ S w e T' S' x a2 w2 := fun ⟨h1, θ2, h2, h3, h4, h5⟩ => ⟨h1, θ2, h2, h3, x'.trans h4, h5⟩
          cases x <;> first | exact ih2 _ _ hq | exact hpost hq
      exact hm _ _ _ this
    · rename_i hno
      have s1 := ih fuel (Nat.lt_succ_self _) _ _ _ _ h
      cases out with
      | call v S2 => exact s1.elim
      | code e T2 S2 =>
        refine ⟨e, T2, S2, rfl, 1, fun θ B w a k tr dk => ?_⟩
        rw [rounds_succ]
        refine wp_mono (s1 θ B w a k tr dk) fun x a' w' ⟨he, hr⟩ => ?_
        cases e with
        | normal => exact (hno _ _ h).elim
        | exit id => subst he; exact ⟨rfl, hr⟩
        | ret => subst he; exact ⟨rfl, hr⟩

theorem so_code (hE : EnvOk P E) {fuel : Nat} (ihs : ∀ m, m < fuel + 1 → ∀ nt k S out, run E m nt k S = some out → Sound P nt k S out) {nt : Nat} {c : Code} {T : Tr AV} {S : St} {out : Out} (h : run E (fuel + 1) nt (.code c T) S = some out) :
    Sound P nt (.code c T) S out := by
  have ih := ihs fuel (Nat.lt_succ_self _)
  have h0 := h
  have chain : ∀ {B : Nat} {θ θ' : Th} {S' : St} {w w' w'' : World} {e : AExit} {T2 : Tr AV} {S2 : St} {x : Exit} {a : Act}, Ext θ S w θ' S' w' → CodePost P B nt θ' S' w' e T2 S2 x a w'' → CodePost P B nt θ S w e T2 S2 x a w'' :=
    fun hx ⟨h1, θ2, h2, h3, h4, h5⟩ => ⟨h1, θ2, h2, h3, hx.trans h4, h5⟩
  cases c <;> simp only [run, rCode, rOps, rCall, rDefer, rEff, rOp, rAny, rFun, rRegion, rHeld] at h
  case skip => cases h; exact fun θ B w a k tr dk => wp_skip ⟨rfl, θ, k, tr, .refl _ _ _, dk⟩
  case label => cases h; exact fun θ B w a k tr dk => wp_label ⟨rfl, θ, k, tr, .refl _ _ _, dk⟩
  case exit => cases h; exact fun θ B w a k tr dk => wp_exit ⟨rfl, θ, k, tr, .refl _ _ _, dk⟩
  case ret => cases h; exact fun θ B w a k tr dk => wp_ret ⟨rfl, θ, k, tr, .refl _ _ _, dk⟩
  case seq x y =>
    split at h
    · rename_i T1 S1 h1
      have s1 := ih _ _ _ _ h1
      have s2 := ih _ _ _ _ h
      cases out with
      | call v S2 => exact s2.elim
      | code e T2 S2 =>
        intro θ B w a k tr dk
        refine wp_seq (wp_mono (s1 θ B w a k tr dk) fun x a' w' ⟨he, θ', k', tr', x', dk'⟩ => ?_)
        subst he
        exact wp_mono (s2 θ' B w' a' k' tr' dk') fun _ _ _ hp => chain x' hp
    · rename_i hno
      have s1 := ih _ _ _ _ h
      cases out with
      | call v S2 => exact s1.elim
      | code e T2 S2 =>
        intro θ B w a k tr dk
        refine wp_seq (wp_mono (s1 θ B w a k tr dk) fun x a' w' hp => ?_)
        obtain ⟨he, hr⟩ := hp
        cases e with
        | normal => exact (hno _ _ h).elim
        | exit id => subst he; exact ⟨rfl, hr⟩
        | ret => subst he; exact ⟨rfl, hr⟩
  case cond o x y =>
    have hc : ∀ (b : Bool), ev T o = some (.bool b) → ∀ θ B w a, SR θ B S w → TR θ nt T a → a.eval o = .bool b := fun b hb θ B w a k tr => by
      have := ev_sound tr k.glob hb
      generalize a.eval o = v at this
      cases this
      rfl
    split at h
    · rename_i hb
      have s1 := ih _ _ _ _ h
      cases out with
      | call v S2 => exact s1.elim
      | code e T2 S2 => exact fun θ B w a k tr dk => wp_cond_true (hc _ hb θ B w a k tr) (s1 θ B w a k tr dk)
    · rename_i hb
      have s1 := ih _ _ _ _ h
      cases out with
      | call v S2 => exact s1.elim
      | code e T2 S2 => exact fun θ B w a k tr dk => wp_cond_false (hc _ hb θ B w a k tr) (s1 θ B w a k tr dk)
    · cases h
  case block id b =>
    split at h
    · rename_i id' T1 S1 h1
      have s1 := ih _ _ _ _ h1
      split at h
      · rename_i hid
        have hid := eqN _ _ hid
        cases h
        intro θ B w a k tr dk
        refine wp_block (wp_mono (s1 θ B w a k tr dk) fun x a' w' ⟨he, hr⟩ => ?_)
        subst he
        simp only [AExit.out, Exit.inBlock, hid, if_true]
        exact ⟨rfl, hr⟩
      · rename_i hid
        have hid : ¬ id' = id := fun e => by rw [e, Nat.beq_refl] at hid; cases hid
        cases h
        intro θ B w a k tr dk
        refine wp_block (wp_mono (s1 θ B w a k tr dk) fun x a' w' ⟨he, hr⟩ => ?_)
        subst he
        simp only [AExit.out, Exit.inBlock, hid, if_false]
        exact ⟨rfl, hr⟩
    · rename_i hno
      have s1 := ih _ _ _ _ h
      cases out with
      | call v S2 => exact s1.elim
      | code e T2 S2 =>
        intro θ B w a k tr dk
        refine wp_block (wp_mono (s1 θ B w a k tr dk) fun x a' w' hp => ?_)
        obtain ⟨he, hr⟩ := hp
        cases e with
        | normal => subst he; exact ⟨rfl, hr⟩
        | exit id => exact (hno _ _ _ h).elim
        | ret => subst he; exact ⟨rfl, hr⟩
  case loop b =>
    obtain ⟨e, T', S', rfl, n, hn⟩ := so_loop (fuel + 1) T S out ihs h0
    exact fun θ B w a k tr dk => wp_loop_rounds n (hn θ B w a k tr dk)
  case region id ops d =>
    cases d with
    | false =>
      have s1 := ih _ _ _ _ h
      cases out with
      | call v S2 => exact s1.elim
      | code e T2 S2 =>
        obtain ⟨rfl, s1⟩ := s1
        intro θ B w a k tr dk
        refine wp_region ?_
        have := s1 0 θ B w a (CodePost P B nt θ S w .normal T2 S2) rfl k tr dk fun a' w' hp => hp
        simpa [List.range_eq_range'] using this
    | true =>
      simp only at h
      split at h
      · rename_i hns
        obtain ⟨hh, n, y, r⟩ := S
        simp only at h
        rw [fN_eq] at h
        have key : ∀ {H : Hold}, HoldOk ops.toList H → keptA hh H.objs = true → run E fuel nt (.any ops ops.toList ops.toList.length n H (numA ops.toList 0) T) ⟨hh, n + ops.toList.length, y, r⟩ = some out → Sound P nt (.code (.region id ops true) T) ⟨hh, n, y, r⟩ out := by
          intro H hok hkept h
          have s1 := ih _ _ _ _ h
          cases out with
          | call v S2 => exact s1.elim
          | code e T2 S2 =>
            obtain ⟨rfl, s1⟩ := s1
            intro θ B w a k tr dk
            refine wp_region_any hE.mixed (wpAny_of_L (S := HR θ B H.tree.get) (late := fun j => memN j H.late) _ _ _ _ ?_)
            have k2 : SR θ B ⟨hh, n + ops.toList.length, y, r⟩ { w with drawn := w.drawn + 1 } :=
              ⟨k.congr (w' := { w with drawn := w.drawn + 1 }) rfl |>.hr, fun m hm => k.next m (by have hm : n + ops.toList.length ≤ m := hm; show n ≤ m; omega), k.syms, by have := k.base; show 64 ≤ n + _; have h1 : 64 ≤ n := this; omega, k.glob, k.size⟩
            refine s1 θ θ B _ a _ _ (CodePost P B nt θ ⟨hh, n, y, r⟩ w .normal T2 S2) (by simp) rfl (by have := LT.start ops.toList; simpa using this) (by rw [numA_length]; simp) (by assumption) hok (.refl _) (fun _ => k2.hr.sub fun m o hm => keptA_spec hkept m o (hok.tree m o hm)) k2 tr dk k.base (Nat.le_refl _)
              (fun i o _ => k.next _ (Nat.le_add_right _ _)) (fun θ' a' w' k' tr' x' hold dk' => ?_) (fun c a w hp => by cases hp.1)
            exact ⟨rfl, θ', k', tr', ⟨x'.le, x'.os, x'.tape, x'.output, x'.size, x'.keep, x'.own, Nat.le_trans (Nat.le_add_right _ _) x'.next, hold⟩, dk'⟩
        split at h
        · rename_i h1
          cases h
          split at h1
          · rename_i H hH
            exact key (holdA_ok hH).1 (holdA_ok hH).2 h1
          · cases h1
        · split at h
          · rename_i h1
            cases h
            split at h1
            · rename_i H hH
              exact key (holdA_ok hH).1 (holdA_ok hH).2 h1
            · cases h1
          · exact key (holdNone_ok _) rfl h
      · cases h
  all_goals cases h

theorem so_call (hE : EnvOk P E) {fuel : Nat} (ih : ∀ nt k S out, run E fuel nt k S = some out → Sound P nt k S out) {nt : Nat} {f : FuncId} {args : List AV} {S : St} {out : Out} (h : run E (fuel + 1) nt (.call f args) S = some out) :
    Sound P nt (.call f args) S out := by
  simp only [run, rCode, rOps, rCall, rDefer, rEff, rOp, rAny, rFun, rRegion, rHeld] at h
  split at h
  · rename_i v hv
    rw [fV_eq] at h
    cases h
    obtain ⟨h1, h2⟩ := hE.known f args S.heap v hv
    refine fun θ B w args' k ha => ⟨h1, (h2 θ B S args' w rfl k ha).mono fun e w' ⟨v', he, hv', hb⟩ => ?_⟩
    obtain ⟨k', x'⟩ := k.grow hb
    exact ⟨v', θ, he, hv', k', x'⟩
  · cases h
  · split at h
    · cases h
    · rename_i fn hfn
      obtain ⟨hf, hc⟩ := hE.fn f fn hfn
      split at h
      · cases h
      · rename_i c hbody
        split at h
        · cases h
        · rename_i hle
          have hle := Nat.le_of_ble_eq_true hle
          rw [argsT_eq] at h
          have hrun : ∃ e T2 S2 vs, (e = .normal ∨ e = .ret) ∧ run E fuel fn.ntmps (.code c (setArgs args 0 .nil)) S = some (.code e T2 S2) ∧ resA E.ty S2.heap T2 fn.results.toList = some vs ∧ out = .call (oneA vs) S2 := by
            split at h
            · rename_i T2 S2 h1
              split at h
              · rename_i vs hvs; cases h; exact ⟨_, T2, S2, vs, .inl rfl, h1, hvs, rfl⟩
              · cases h
            · rename_i T2 S2 h1
              split at h
              · rename_i vs hvs; cases h; exact ⟨_, T2, S2, vs, .inr rfl, h1, hvs, rfl⟩
              · cases h
            · cases h
          obtain ⟨e, T2, S2, vs, he, h1, hvs, rfl⟩ := hrun
          have s1 := ih _ _ _ _ h1
          refine fun θ B w args' k ha => ⟨hc, ?_⟩
          have hal := ha.length
          have tr : TR θ fn.ntmps (setArgs args 0 .nil) { tmps := args'.toArray ++ Array.replicate (fn.ntmps - args'.toArray.size) undef, defers := [] } := by
            refine ⟨fun t => ?_, by simp; omega⟩
            rw [setArgs_get]
            simp only [Nat.not_lt_zero, if_false, Nat.sub_zero, Tr.get_nil]
            have hget : ∀ (l : List AV) (l' : List Value) (t : Nat), VRs θ l l' → VR θ ((l[t]?).getD undefA) ((l'[t]?).getD undef) := by
              intro l l' t h
              cases hl : l[t]? with
              | none =>
                have := h.length
                rw [List.getElem?_eq_none (by have := List.getElem?_eq_none_iff.1 hl; omega)]
                exact VR.undef
              | some v =>
                obtain ⟨v', h1, h2⟩ := h.get (by rw [listGet_eq]; exact hl)
                rw [h1]; exact h2
            have h2 := hget args args' t ha
            have e2 : (({ tmps := args'.toArray ++ Array.replicate (fn.ntmps - args'.toArray.size) undef, defers := [] } : Act).tmps.getD t undef) = (args'[t]?).getD undef := by
              simp only [Array.getD_eq_getD_getElem?, Array.getElem?_append, List.size_toArray, List.getElem?_toArray]
              split
              · rfl
              · rename_i hge
                rw [List.getElem?_eq_none (by omega)]
                simp only [Array.getElem?_replicate]
                split <;> rfl
            rw [e2]
            cases hat : args[t]? with
            | none => rw [hat] at h2; exact h2
            | some v => rw [hat] at h2; exact h2
          refine calls_of_wp_defers hf hbody (wp_mono (s1 θ B w _ k tr (fun d hd => by cases hd)) fun x a' w' ⟨hx, θ', k', tr', x', dk'⟩ => ?_)
          have hleave : Leaves P fn a'.tmps (fun e w' => ∃ v' θ', e = .returned v' ∧ VR θ' (oneA vs) v' ∧ SR θ' B S2 w' ∧ Ext θ S w θ' S2 w') a'.defers .returning w' := by
            refine leaves_ok a'.defers w' dk' fun w2 hb => ?_
            obtain ⟨k2, x2⟩ := k'.grow hb
            obtain ⟨v', h3, h4⟩ := results_sound (P := P) hE.ty k2 tr' hvs
            exact ⟨v', h3, v', θ', rfl, h4, k2, x'.trans x2⟩
          rcases he with rfl | rfl
          · subst hx; exact hleave
          · subst hx; exact hleave

/-- **What the executor says is what the program does.** -/
theorem run_sound (hE : EnvOk P E) : ∀ (fuel nt : Nat) (k : Task) (S : St) (out : Out), run E fuel nt k S = some out → Sound P nt k S out := by
  intro fuel
  induction fuel using Nat.strongRecOn with
  | _ fuel ihs =>
    intro nt k S out h
    cases fuel with
    | zero => simp [run, rCode, rOps, rCall, rDefer, rEff, rOp, rAny, rFun, rRegion, rHeld] at h
    | succ fuel =>
      have ih := ihs fuel (Nat.lt_succ_self _)
      cases k with
      | code c T => exact so_code hE ihs h
      | ops all todo T => exact so_ops ih h
      | op all o nm T => exact so_op hE ih h
      | any ops all n base todo T => exact so_any hE ih h
      | call f args => exact so_call hE ih h

/-- A function called with nothing known but the program's variables. -/
theorem call_sound (hE : EnvOk P E) {fuel nt : Nat} {f : FuncId} {args : List AV} {S S' : St} {v : AV} (h : run E fuel nt (.call f args) S = some (.call v S')) {θ : Th} {w : World} {args' : List Value} (k : SR θ w.heap.size S w) (ha : VRs θ args args') :
    Calls P f args'.toArray w (fun e w' => ∃ v' θ', e = .returned v' ∧ VR θ' v v' ∧ SR θ' w.heap.size S' w' ∧ Below w.heap.size w w') :=
  ((run_sound hE fuel nt _ S _ h θ _ w args' k ha).2).mono fun e w' ⟨v', θ', he, hv, hk, hx⟩ => ⟨v', θ', he, hv, hk, hx.below k⟩
end
end Go.Exe
