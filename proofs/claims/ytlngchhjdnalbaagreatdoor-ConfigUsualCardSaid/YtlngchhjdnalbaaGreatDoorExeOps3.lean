/- The executor: keys, slices, conversions, and all operations that change nothing. -/
import Derived.Test.YtlngchhjdnalbaaGreatDoorExeOps2
set_option linter.unusedVariables false
set_option linter.unusedSimpArgs false
namespace Go.Exe
open Go.RowKit

/-- What was found under a key. -/
inductive FR (θ : Th) : Option (Nat × AV) → Option (Nat × Value) → Prop where
  | none : FR θ none none
  | some (i : Nat) (v : AV) (v' : Value) : VR θ v v' → FR θ (some (i, v)) (some (i, v'))

theorem sameNow_sound {P : Program} {ty : Tr TI} (hty : TyOk P ty) {θ : Th} {d : Nat} (hd : d ≤ 10000) {kt : TypeId} {D : TypeDesc} (hD : P.underlying kt = some D) {x y : AV} {x' y' : Value} {b c : Bool} (hx : VR θ x x') (hy : VR θ y y')
    (h : Instr.sameNow D x' y' = some b) (hs : sameA ty d kt x y = some c) : b = c := by
  obtain ⟨m, hm⟩ : ∃ m, 10000 = m + 1 := ⟨9999, rfl⟩
  have h1 := sameA_sound hty d (m + 1) kt x y x' y' c (by omega) hx hy hs default
  have hR := run_underlying (P := P) hD
  unfold Instr.sameNow at h
  split at h
  · split at h
    · rename_i e
      subst e
      simp only [Option.some.injEq] at h
      simp only [Op.equalIn, Sem.run_bind, hR, Result.andThen_ok] at h1
      simp at h1
      rw [← h, h1]
    · cases h
  · simp only [Option.some.injEq] at h
    simp only [Op.equalIn, Sem.run_bind, hR, Result.andThen_ok] at h1
    simp at h1
    rw [← h, h1]
  · simp only [Option.some.injEq] at h
    simp only [Op.equalIn, Sem.run_bind, hR, Result.andThen_ok] at h1
    simp at h1
    rw [← h, h1]
  · cases h

theorem findNow_sound {P : Program} {ty : Tr TI} (hty : TyOk P ty) {θ : Th} {kt : TypeId} {D : TypeDesc} (hD : P.underlying kt = some D) {k : AV} {k' : Value} (hk : VR θ k k') :
    ∀ (es : List (AV × AV × Nat)) (es' : List MapEntry) (i : Nat) (r : Option (Nat × AV)) (r' : Option (Nat × Value)), ERs θ es es' → keyIn ty kt k es i = some r → Instr.findNow D k' es' i = some r' → FR θ r r' := by
  intro es
  induction es with
  | nil =>
    intro es' i r r' he h h'
    cases he
    simp only [keyIn, Option.some.injEq] at h
    simp only [Instr.findNow, Option.some.injEq] at h'
    subst h; subst h'
    exact .none
  | cons e es ih =>
    intro es' i r r' he h h'
    cases he
    rename_i k1 v1 n1 k1' v1' es1' h1 h2 h3
    simp only [keyIn] at h
    simp only [Instr.findNow] at h'
    split at h'
    · rename_i hb
      split at h
      · simp only [Option.some.injEq] at h h'
        subst h; subst h'
        exact .some _ _ _ h2
      · rename_i hc
        have := sameNow_sound hty (by decide) hD hk h1 hb hc
        cases this
      · cases h
    · rename_i hb
      split at h
      · rename_i hc
        have := sameNow_sound hty (by decide) hD hk h1 hb hc
        cases this
      · exact ih _ _ _ _ h3 h h'
      · cases h
    · cases h'

theorem findAsk_sound {P : Program} {ty : Tr TI} (hty : TyOk P ty) {θ : Th} {kt : TypeId} {k : AV} {k' : Value} (hk : VR θ k k') (w : World) :
    ∀ (es : List (AV × AV × Nat)) (es' : List MapEntry) (i : Nat) (r : Option (Nat × AV)), ERs θ es es' → keyIn ty kt k es i = some r → ∃ r', (Instr.findAsking kt k' es' i).run P w = .ok r' w ∧ FR θ r r' := by
  intro es
  induction es with
  | nil =>
    intro es' i r he h
    cases he
    simp only [keyIn, Option.some.injEq] at h
    subst h
    exact ⟨none, by simp [Instr.findAsking], .none⟩
  | cons e es ih =>
    intro es' i r he h
    cases he
    rename_i k1 v1 n1 k1' v1' es1' h1 h2 h3
    simp only [keyIn] at h
    split at h
    · rename_i hc
      have := sameA_sound hty 6 Op.maxDepth kt k k1 k' k1' true (by decide) hk h1 hc w
      simp only [Option.some.injEq] at h
      subst h
      exact ⟨some (i, v1'), by simp [Instr.findAsking, Op.equal, this], .some _ _ _ h2⟩
    · rename_i hc
      have := sameA_sound hty 6 Op.maxDepth kt k k1 k' k1' false (by decide) hk h1 hc w
      obtain ⟨r', h4, h5⟩ := ih _ _ _ h3 h
      exact ⟨r', by simp [Instr.findAsking, Op.equal, this, h4], h5⟩
    · cases h

theorem findKey_sound {P : Program} {ty : Tr TI} (hty : TyOk P ty) {θ : Th} {kt : TypeId} {D : TypeDesc} (hD : P.underlying kt = some D) {k : AV} {k' : Value} (hk : VR θ k k') (w : World) {es : List (AV × AV × Nat)} {es' : List MapEntry} {r : Option (Nat × AV)}
    (he : ERs θ es es') (h : keyIn ty kt k es 0 = some r) : ∃ r', (Instr.findKey kt k' es').run P w = .ok r' w ∧ FR θ r r' := by
  simp only [Instr.findKey, Sem.run_bind, run_underlying hD, Result.andThen_ok]
  cases hf : Instr.findNow D k' es' 0 with
  | some r' => exact ⟨r', by simp, findNow_sound hty hD hk es es' 0 r r' he h hf⟩
  | none => simpa using findAsk_sound hty hk w es es' 0 r he h

theorem checkFs_sound {P : Program} {θ : Th} {xs : List AV} {xs' : Array Value} (hx : VRs θ xs xs'.toList) (r : TypeId → AV → Bool) (e : Bool) (m : Nat)
    (ih : ∀ (t : TypeId) (x : AV) (x' : Value), VR θ x x' → r t x = true → ∀ w, (Instr.checkKey e m t x').run P w = .ok () w) :
    ∀ (fs : List Field) (fis : List FI), FsOk P fs fis → plainFs r xs fis = true → ∀ w,
      (forIn fs PUnit.unit (fun f (_ : PUnit) => (if f.name ≠ "_" then (do Instr.checkKey e m f.type (← part f.type xs' f.offset); pure (ForInStep.yield PUnit.unit)) else pure (ForInStep.yield PUnit.unit) : Sem (ForInStep PUnit)))).run P w = .ok PUnit.unit w := by
  intro fs fis hf
  induction hf with
  | nil => intro h w; rfl
  | cons f fi fs fis hf _ ih2 =>
    intro h w
    obtain ⟨h1, h2, h3, h4, h5⟩ := hf
    simp only [plainFs] at h
    rw [List.forIn_cons]
    split at h
    · rename_i hc
      rw [hc] at h5
      have : f.name = "_" := by simpa using h5
      simp only [this, ne_eq, not_true_eq_false, if_false, Sem.run_bind, Sem.run_pure, Result.andThen_ok]
      exact ih2 h w
    · rename_i hc
      rw [hc] at h5
      have hn : ¬ f.name = "_" := by simpa using h5
      split at h
      · rename_i u hu
        split at h
        · rename_i hr
          rw [← h2] at hr
          obtain ⟨u', hu1, hu2⟩ := part_sound h4 h3 hx hu w
          rw [← h1] at hu1
          have := ih _ _ _ hu2 hr w
          simp only [hn, ne_eq, not_false_eq_true, if_true, Sem.run_bind, hu1, Result.andThen_ok, this, Sem.run_pure]
          exact ih2 h w
        · cases h
      · cases h

theorem checkKey_sound {P : Program} {ty : Tr TI} (hty : TyOk P ty) {θ : Th} : ∀ (d m : Nat) (t : TypeId) (x : AV) (x' : Value) (e : Bool), d ≤ m → VR θ x x' → plainKey ty d t x = true → ∀ w, (Instr.checkKey e m t x').run P w = .ok () w := by
  intro d
  induction d with
  | zero => intro m t x x' e _ _ h; simp [plainKey] at h
  | succ d ih =>
    intro m t x x' e hm hx h w
    obtain ⟨m, rfl⟩ : ∃ k, m = k + 1 := ⟨m - 1, by omega⟩
    simp only [plainKey] at h
    split at h
    · cases h
    · rename_i ti hti
      obtain ⟨D, hD, hk⟩ := (hty t ti hti).und
      have hR := run_underlying (P := P) hD
      split at h
      · rename_i hkd; rw [hkd] at hk; obtain rfl := kd_int hk; simp [Instr.checkKey, hR]
      · rename_i hkd; rw [hkd] at hk; obtain rfl := kd_str hk; simp [Instr.checkKey, hR]
      · rename_i hkd; rw [hkd] at hk; obtain rfl := kd_bool hk; simp [Instr.checkKey, hR]
      · rename_i fs xs hkd
        rw [hkd] at hk
        obtain ⟨F, rfl, hF⟩ := kd_struct hk
        cases hx
        rename_i c1 hx
        have := checkFs_sound (P := P) (xs' := c1.toArray) (by simpa using hx) (plainKey ty d) e m (fun t x x' h1 h2 w => ih m t x x' e (by omega) h1 h2 w) _ _ hF h w
        simp only [Instr.checkKey, Sem.run_bind, hR, Result.andThen_ok]
        rw [← Array.forIn_toList]
        exact (congrArg (fun r => Result.andThen r fun (_ : PUnit) w' => Sem.run P (pure ()) w') this).trans rfl
      · cases h

section
variable {P : Program} {ty : Tr TI} {θ : Th} {B : Nat} {h : Tr AObj} {w : World} {nt : Nat} {T : Tr AV} {a : Act} {nm : Nat} {v : AV} {ob : Option AObj}

theorem HR.map {θ : Th} {B : Nat} {h : Nat → Option AObj} {w : World} (k : HR θ B h w) {n b : Nat} {es : List (AV × AV × Nat)} {cl : Nat} (hn : h n = some (.map es cl)) (hb : θ.blk n = some b) :
    ∃ es', w.heap[b]? = some (.map es' cl) ∧ ERs θ es es'.toList := by
  obtain ⟨b', ob, h1, h2, h3, h4⟩ := k.obj n _ hn
  rw [hb] at h1
  cases h1
  cases ob <;> simp only [OR] at h3
  obtain ⟨rfl, h5⟩ := h3
  exact ⟨_, h2, h5⟩

theorem run_getObj_map {P : Program} {w : World} {b : Nat} {es : Array MapEntry} {cl : Nat} (h : w.heap[b]? = some (.map es cl)) : (getObj b).run P w = .ok (.map es cl) w := by
  simp [getObj, Sem.run, h]

theorem zeroOf_sound {t : TypeId} {ti : TI} (ht : TIok P t ti) (θ : Th) {z : AV} (h : zeroOf ti = some z) : ∃ z', (∀ w, (zeroValue t).run P w = .ok z' w) ∧ VR θ z z' := by
  obtain ⟨z', h1, h2, h3, h4, h5⟩ := ht.zero
  refine ⟨z', h1, ?_⟩
  unfold zeroOf at h
  split at h
  · rename_i hk
    simp only [Option.some.injEq] at h
    subst h
    obtain ⟨cs, rfl⟩ := h3 hk
    have := VR.agg _ _ (h2 θ)
    simpa [Value.cells] using this
  · rename_i hk
    have hz := h2 θ
    rw [h4 hk] at hz
    obtain ⟨v', h6, h7⟩ := hz.get h
    cases i0 : (0 : Nat) with
    | zero =>
      simp at h6
      rw [h6]
      exact h7
    | succ n => cases i0

theorem mapOf_sound {m : AV} {m' : Value} {es : List (AV × AV × Nat)} (hr : HR θ B h.get w) (hm : VR θ m m') (hes : mapOf h m = some es) :
    (∃ b es' cl, m' = .map (some b) ∧ (getObj b).run P w = .ok (.map es' cl) w ∧ ERs θ es es'.toList) ∨ (m' = .map none ∧ es = []) := by
  cases hm <;> simp only [mapOf, reduceCtorEq] at hes
  · simp only [Option.some.injEq] at hes; exact .inr ⟨rfl, hes.symm⟩
  · rename_i n b hb
    split at hes
    · rename_i es0 cl hn
      simp only [Option.some.injEq] at hes
      subst hes
      obtain ⟨es', h1, h2⟩ := hr.map hn hb
      exact .inl ⟨b, es', cl, rfl, run_getObj_map h1, h2⟩
    · cases hes

theorem okA_sound {ok : Bool} {v : AV} {v' : Value} (b : Bool) (h : VR θ v v') : VR θ (okA ok v b) (if ok then .tuple #[v', .bool b] else v') := by
  cases ok
  · exact h
  · exact VR.tuple _ [v', .bool b] (.cons _ _ _ _ h (.cons _ _ _ _ (.bool _) .nil))

theorem pu_lookup (c : PC P ty θ B h.get w nt T a) {o : Oper} {t : TypeId} {x i : Operand} {ok : Bool} (ho : o.op = .lookup t x i ok) (hp : pureOp ty h nm T (.lookup t x i ok) = some (v, ob)) : Came P a o w θ nm v ob := by
  simp only [pureOp, pupick, pualloc, pubox, pubuild, pubuildSlice, puload, punilCheck, pubinOp, puunOp, puconvert, pumakeInterface, pumakeFunc, puslice, pufieldAddr, pufield, puindexAddr, puindex, pulookup, puextract, putypeAssert, pulen, pumin, pumax] at hp
  split at hp
  · rename_i ti m k hti hm hk
    split at hp
    · rename_i kt e hkd
      split at hp
      · rename_i te es hpk hte hes
        obtain ⟨D, hD, hK⟩ := (c.ty _ _ hti).und
        rw [hkd] at hK
        obtain rfl := kd_map hK
        have hm := c.ev hm
        have hk := c.ev hk
        have hck := fun e => checkKey_sound c.ty 4 10000 kt k (a.eval i) e (by decide) hk hpk w
        have hK2 : ∃ D, P.underlying kt = some D := by
          simp only [plainKey] at hpk
          split at hpk
          · cases hpk
          · rename_i tk htk
            obtain ⟨D, h1, _⟩ := (c.ty _ _ htk).und
            exact ⟨D, h1⟩
        obtain ⟨KD, hKD⟩ := hK2
        have hfind : ∀ (m' : Value) (es' : Array MapEntry), a.eval x = m' → (∀ K : Array MapEntry → Sem Value, ((match m' with
              | .map none => K #[]
              | .map (some r) => do
                let .map es _ ← getObj r | stuck "Lookup: map expected"
                K es
              | _ => stuck "Lookup: map expected") : Sem Value).run P w = (K es').run P w) → ERs θ es es'.toList → Came P a o w θ nm v ob := by
          intro m' es' hm' hK' he
          have hrun : (execOp a.eval o).run P w = Result.andThen (Sem.run P ((do
              Instr.checkKey es'.isEmpty 10000 kt (a.eval i)
              match ← Instr.findKey kt (a.eval i) es'.toList with
              | some (_, v) => pure (if ok then Value.tuple #[v, .bool true] else v)
              | none => do
                let z ← zeroValue e
                pure (if ok then Value.tuple #[z, .bool false] else z)) : Sem Value) w) (fun v w' => .ok (.value v) w') := by
            simp only [execOp, ho, Instr.lookup, hm', Sem.run_bind, run_underlying hD, Result.andThen_ok]
            have := hK' (fun es => do
              Instr.checkKey es.isEmpty 10000 kt (a.eval i)
              match ← Instr.findKey kt (a.eval i) es.toList with
              | some (_, v) => pure (if ok then Value.tuple #[v, .bool true] else v)
              | none => do
                let z ← zeroValue e
                pure (if ok then Value.tuple #[z, .bool false] else z))
            simp only [Sem.run_bind] at this
            refine congrArg (fun r => Result.andThen r _) ?_
            refine Eq.trans ?_ this
            cases m' <;> rfl
          simp only [Sem.run_bind, hck, Result.andThen_ok] at hrun
          split at hp
          · rename_i j u hr
            simp only [Option.some.injEq, Prod.mk.injEq] at hp
            obtain ⟨rfl, rfl⟩ := hp
            obtain ⟨r', h1, h2⟩ := findKey_sound c.ty hKD hk w he hr
            cases h2
            rename_i u' hu
            refine ⟨_, ?_, okA_sound true hu⟩
            rw [hrun, h1]
            rfl
          · rename_i hr
            split at hp
            · rename_i z hz
              simp only [Option.some.injEq, Prod.mk.injEq] at hp
              obtain ⟨rfl, rfl⟩ := hp
              obtain ⟨r', h1, h2⟩ := findKey_sound c.ty hKD hk w he hr
              cases h2
              obtain ⟨z', h3, h4⟩ := zeroOf_sound (c.ty _ _ hte) θ hz
              refine ⟨_, ?_, okA_sound false h4⟩
              rw [hrun, h1]
              simp only [Result.andThen_ok, Sem.run_bind, h3]
              rfl
            · cases hp
          · cases hp
        rcases mapOf_sound (P := P) c.hr hm hes with ⟨b, es', cl, h1, h2, h3⟩ | ⟨h1, rfl⟩
        · exact hfind _ es' h1 (fun K => by simp [h2]) h3
        · exact hfind _ #[] h1 (fun K => rfl) .nil
      · cases hp
    · cases hp
  · cases hp
end
end Go.Exe
