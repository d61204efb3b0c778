/- The executor: comparisons and arithmetic. The executor: operations on open values. -/
import Derived.Test.YtjlgdeeahcfcgaaGreatDoorExeRel
import Derived.Lib.IndexBytes
set_option linter.unusedVariables false
set_option linter.unusedSimpArgs false
namespace Go.Exe
open Go.RowKit

theorem ltI_eq (a b : Int) : ltI a b = decide (a < b) := by
  rw [Bool.eq_iff_iff, decide_eq_true_eq]
  cases a <;> cases b <;> simp only [ltI, Nat.ble_eq, Int.ofNat_eq_natCast, Int.negSucc_eq, Bool.false_eq_true, false_iff, true_iff] <;> omega
theorem eqI_eq (a b : Int) : eqI a b = (a == b) := by
  rw [Bool.eq_iff_iff, beq_iff_eq]
  cases a <;> cases b
  · simp only [eqI, Nat.beq_eq, Int.ofNat_eq_natCast]; omega
  · simp [eqI]
  · simp [eqI]
  · simp only [eqI, Nat.beq_eq, Int.negSucc.injEq]
theorem addI_eq (a b : Int) : addI a b = a + b := by cases a <;> cases b <;> simp [addI]
theorem subI_eq (a b : Int) : subI a b = a - b := by
  cases a <;> cases b <;> simp only [subI]
  split
  · rename_i m n h
    have := Nat.le_of_ble_eq_true h
    simp only [Int.ofNat_eq_natCast]
    omega
  · rfl
theorem wrapA_eq (k : IntKind) (n : Int) : wrapA k n = k.wrap n := by
  cases n with
  | negSucc m => rfl
  | ofNat m =>
    simp only [wrapA]
    split
    · rename_i h
      have := Nat.le_of_ble_eq_true h
      simp only [IntKind.wrap, Int.ofNat_eq_natCast]
      cases k <;> simp [IntKind.bits, IntKind.signed] <;> omega
    · split
      · rename_i h
        have := Nat.le_of_ble_eq_true h
        simp only [IntKind.wrap, Int.ofNat_eq_natCast]
        simp [IntKind.bits, IntKind.signed]; omega
      · rfl
theorem kindEq_eq {j k : IntKind} (h : kindEq j k = true) : j = k := by
  cases j <;> cases k <;> first | rfl | (simp [kindEq] at h)

theorem sameStr_eq : ∀ (a b : List Nat), sameStr a b = decide (a = b)
  | [], [] => by simp [sameStr]
  | [], _ :: _ => by simp [sameStr]
  | _ :: _, [] => by simp [sameStr]
  | a :: x, b :: y => by
    simp only [sameStr]
    split
    · rename_i h
      have := Nat.eq_of_beq_eq_true h
      rw [sameStr_eq x y]; simp [this]
    · rename_i h
      have : a ≠ b := fun e => by subst e; rw [Nat.beq_refl] at h; cases h
      simp [this]

theorem map_toNat_inj : ∀ {x y : List UInt8}, x.map UInt8.toNat = y.map UInt8.toNat → x = y
  | [], [], _ => rfl
  | [], _ :: _, h => by simp at h
  | _ :: _, [], h => by simp at h
  | a :: x, b :: y, h => by
    simp only [List.map_cons, List.cons.injEq] at h
    rw [UInt8.toNat_inj.1 h.1, map_toNat_inj h.2]

theorem bytes_eq (a b : ByteArray) : (a.toList == b.toList) = decide (a.data.toList.map UInt8.toNat = b.data.toList.map UInt8.toNat) := by
  rw [Lib.toList_data, Lib.toList_data, Bool.eq_iff_iff, beq_iff_eq, decide_eq_true_eq]
  exact ⟨fun h => by rw [h], map_toNat_inj⟩

theorem less_eq : ∀ (a b : List UInt8), lessStr (a.map UInt8.toNat) (b.map UInt8.toNat) = Op.bytesLess a b
  | [], [] => rfl
  | _ :: _, [] => rfl
  | [], _ :: _ => rfl
  | a :: x, b :: y => by
    simp only [List.map_cons, lessStr, Op.bytesLess]
    split
    · rename_i h
      have := Nat.le_of_ble_eq_true h
      have : a < b := UInt8.lt_iff_toNat_lt.2 (by omega)
      simp [this]
    · rename_i h
      have h1 : ¬ (a < b) := fun h' => by
        have := UInt8.lt_iff_toNat_lt.1 h'
        rw [Nat.ble_eq_true_of_le (by omega)] at h; cases h
      split
      · rename_i h2
        have := UInt8.toNat_inj.1 (Nat.eq_of_beq_eq_true h2)
        rw [less_eq x y]
        simp [h1, this]
      · rename_i h2
        have : a ≠ b := fun e => by subst e; rw [Nat.beq_refl] at h2; cases h2
        simp [h1, this]

theorem bytes_beq (a b : ByteArray) : (a == b) = decide (a.data.toList.map UInt8.toNat = b.data.toList.map UInt8.toNat) := by
  rw [beq_toListBytes, bytes_eq]

set_option linter.unusedSectionVars false
variable [Opn]

/-- The fields, one behind the other. -/
theorem sameFs_sound {P : Program} {θ : Th} {xs ys : List AV} {xs' ys' : Array Value} (hx : VRs θ xs xs'.toList) (hy : VRs θ ys ys'.toList) (r : TypeId → AV → AV → Option Bool) (m : Nat)
    (ih : ∀ (t : TypeId) (x y : AV) (x' y' : Value) (b : Bool), VR θ x x' → VR θ y y' → r t x y = some b → ∀ w, (Op.equalIn m t x' y').run P w = .ok b w) :
    ∀ (fs : List Field) (fis : List FI) (b : Bool), FsOk P fs fis → sameFs r xs ys fis = some b → ∀ w, (Op.eqFields m xs' ys' fs).run P w = .ok b w := by
  intro fs fis b hf
  induction hf with
  | nil => intro h w; simp only [sameFs, Option.some.injEq] at h; subst h; simp [Op.eqFields]
  | cons f fi fs fis hf _ ih2 =>
    intro h w
    obtain ⟨h1, h2, h3, h4, h5⟩ := hf
    simp only [sameFs] at h
    split at h
    · rename_i hc
      rw [hc] at h5
      have : f.name = "_" := by simpa using h5
      simp [Op.eqFields, this, ih2 h w]
    · rename_i hc
      rw [hc] at h5
      have hn : ¬ f.name = "_" := by simpa using h5
      split at h
      · rename_i u v hu hv
        rw [← h2] at h
        obtain ⟨u', hu1, hu2⟩ := part_sound h4 h3 hx hu w
        obtain ⟨v', hv1, hv2⟩ := part_sound h4 h3 hy hv w
        rw [← h1] at hu1 hv1
        split at h
        · rename_i hr
          have := ih _ _ _ _ _ _ hu2 hv2 hr w
          simp [Op.eqFields, hn, hu1, hv1, this, ih2 h w]
        · rename_i hr
          have := ih _ _ _ _ _ _ hu2 hv2 hr w
          simp only [Option.some.injEq] at h
          subst h
          simp [Op.eqFields, hn, hu1, hv1, this]
        · cases h
      · cases h

set_option maxHeartbeats 4000000 in
/-- Two values of a type, compared. -/
theorem sameA_sound {P : Program} {ty : Tr TI} (hty : TyOk P ty) {θ : Th} : ∀ (d m : Nat) (t : TypeId) (x y : AV) (x' y' : Value) (r : Bool), d ≤ m → VR θ x x' → VR θ y y' → sameA ty d t x y = some r →
    ∀ w, (Op.equalIn m t x' y').run P w = .ok r w := by
  intro d
  induction d with
  | zero => intro m t x y x' y' r _ _ _ h; simp [sameA] at h
  | succ d ih =>
    intro m t x y x' y' r hm hx hy h w
    obtain ⟨m, rfl⟩ : ∃ k, m = k + 1 := ⟨m - 1, by omega⟩
    simp only [sameA] at h
    split at h
    · cases h
    · rename_i ti hti
      have ht := hty t ti hti
      obtain ⟨D, hD, hk⟩ := ht.und
      have hR := run_underlying (P := P) hD
      split at h
      · rename_i a b hkd; rw [hkd] at hk; obtain rfl := kd_bool hk; cases hx; cases hy; simp only [Option.some.injEq] at h; subst h; simp [Op.equalIn, hR]
      · rename_i k a k' b hkd
        rw [hkd] at hk; obtain rfl := kd_int hk; cases hx; cases hy
        split at h
        · rename_i he; obtain rfl := kindEq_eq he; simp only [Option.some.injEq] at h; subst h; simp [Op.equalIn, hR, eqI_eq]
        · cases h
      · rename_i a b hkd; rw [hkd] at hk; obtain rfl := kd_str hk; cases hx; cases hy; simp only [Option.some.injEq] at h; subst h; simp [Op.equalIn, hR, sameStr_eq, bytes_beq]
      · rename_i hkd; rw [hkd] at hk; obtain rfl := kd_ptr hk; cases hx; cases hy; simp only [Option.some.injEq] at h; subst h; simp [Op.equalIn, hR]
      · rename_i hkd; rw [hkd] at hk; obtain rfl := kd_ptr hk; cases hx; cases hy; simp only [Option.some.injEq] at h; subst h; simp [Op.equalIn, hR]
      · rename_i hkd; rw [hkd] at hk; obtain rfl := kd_ptr hk; cases hx; cases hy; simp only [Option.some.injEq] at h; subst h; simp [Op.equalIn, hR]
      · rename_i e n o n' o' hkd
        rw [hkd] at hk
        obtain rfl := kd_ptr hk
        split at h
        · rename_i te hte h1 h2
          simp only [Option.some.injEq] at h
          subst h
          obtain rfl := Nat.eq_of_beq_eq_true h1
          obtain rfl := Nat.eq_of_beq_eq_true h2
          cases hx
          cases hy
          rename_i b1 hb1 b2 hb2
          obtain rfl := Option.some.inj (hb1.symm.trans hb2)
          have hsz := (hty _ _ hte).size w
          by_cases h0 : te.size = 0 <;> simp [Op.equalIn, hR, hsz, h0, sameAddr]
        · cases h
      · rename_i hkd; rw [hkd] at hk; obtain ⟨M, rfl⟩ := kd_iface hk; cases hx; cases hy; simp only [Option.some.injEq] at h; subst h; simp [Op.equalIn, hR]
      · rename_i hkd; rw [hkd] at hk; obtain ⟨M, rfl⟩ := kd_iface hk; cases hx; cases hy; simp only [Option.some.injEq] at h; subst h; simp [Op.equalIn, hR]
      · rename_i hkd; rw [hkd] at hk; obtain ⟨M, rfl⟩ := kd_iface hk; cases hx; cases hy; simp only [Option.some.injEq] at h; subst h; simp [Op.equalIn, hR]
      · rename_i hkd; rw [hkd] at hk; obtain rfl := kd_slice hk; cases hx; cases hy; simp only [Option.some.injEq] at h; subst h; simp [Op.equalIn, hR]
      · rename_i hkd; rw [hkd] at hk; obtain rfl := kd_slice hk; cases hx; cases hy <;> (simp only [Option.some.injEq] at h; subst h; simp [Op.equalIn, hR])
      · rename_i hkd; rw [hkd] at hk; obtain rfl := kd_slice hk; cases hy; cases hx <;> (simp only [Option.some.injEq] at h; subst h; simp [Op.equalIn, hR])
      · rename_i hkd; rw [hkd] at hk; obtain ⟨X, Y, Z, rfl⟩ := kd_func hk; cases hx; cases hy; simp only [Option.some.injEq] at h; subst h; simp [Op.equalIn, hR]
      · rename_i hkd; rw [hkd] at hk; obtain ⟨X, Y, Z, rfl⟩ := kd_func hk; cases hx; cases hy; simp only [Option.some.injEq] at h; subst h; simp [Op.equalIn, hR]
      · rename_i hkd; rw [hkd] at hk; obtain ⟨X, Y, Z, rfl⟩ := kd_func hk; cases hx; cases hy; simp only [Option.some.injEq] at h; subst h; simp [Op.equalIn, hR]
      · rename_i hkd; rw [hkd] at hk; obtain rfl := kd_map hk; cases hx; cases hy; simp only [Option.some.injEq] at h; subst h; simp [Op.equalIn, hR]
      · rename_i hkd; rw [hkd] at hk; obtain rfl := kd_map hk; cases hx; cases hy; simp only [Option.some.injEq] at h; subst h; simp [Op.equalIn, hR]
      · rename_i hkd; rw [hkd] at hk; obtain rfl := kd_map hk; cases hx; cases hy; simp only [Option.some.injEq] at h; subst h; simp [Op.equalIn, hR]
      · rename_i fs xs ys hkd
        rw [hkd] at hk
        obtain ⟨F, rfl, hF⟩ := kd_struct hk
        split at h
        · cases h
        · rename_i hh
          cases hx; cases hy
          rename_i c1 hx c2 hy
          have he := (ht.eqg (by rw [hkd]; rfl) hh).2
          rw [run_equalIn_struct w m t _ _ (by simp [Program.fieldsOf, hD]) he]
          refine sameFs_sound (by simpa using hx) (by simpa using hy) (sameA ty d) m (fun t x y x' y' b h1 h2 h3 w => ih m t x y x' y' b (by omega) h1 h2 h3 w) _ fs r ?_ h w
          simpa [Program.fieldsOf, hD] using hF
      · cases h

/-- No open value. -/
def shutA : AV → Bool
  | .func (.yield _) _ _ => false
  | _ => true

theorem sameA_shut {ty : Tr TI} {d : Nat} {t : TypeId} {a b : AV} {r : Bool} (h : sameA ty d t a b = some r) : shutA a = true ∧ shutA b = true := by
  cases d with
  | zero => simp [sameA] at h
  | succ d =>
    simp only [sameA] at h
    split at h
    · cases h
    · split at h <;> first | (cases h; done) | exact ⟨rfl, rfl⟩

theorem eql_run {θ : Th} {x y : AV} {x' y' : Value} (t : TypeId) (hx : VR θ x x') (hy : VR θ y y') (hox : shutA x = true) (hoy : shutA y = true) (h1 : ∀ k a k' b, x = .int k a → y = .int k' b → False) (h2 : ∀ a b, x = .str a → y = .str b → False) :
    binOp .eql t x' y' = (do pure (.bool (← Op.equal t x' y'))) := by
  cases hx <;> first | (simp [shutA] at hox; done) | (cases hy <;> first | rfl | (simp [shutA] at hoy; done) | (exfalso; exact h1 _ _ _ _ rfl rfl) | (exfalso; exact h2 _ _ rfl rfl))
theorem neq_run {θ : Th} {x y : AV} {x' y' : Value} (t : TypeId) (hx : VR θ x x') (hy : VR θ y y') (hox : shutA x = true) (hoy : shutA y = true) (h1 : ∀ k a k' b, x = .int k a → y = .int k' b → False) (h2 : ∀ a b, x = .str a → y = .str b → False) :
    binOp .neq t x' y' = (do pure (.bool (!(← Op.equal t x' y')))) := by
  cases hx <;> first | (simp [shutA] at hox; done) | (cases hy <;> first | rfl | (simp [shutA] at hoy; done) | (exfalso; exact h1 _ _ _ _ rfl rfl) | (exfalso; exact h2 _ _ rfl rfl))

theorem guard_run {P : Program} {θ : Th} {x y : AV} {x' y' : Value} (op : BinOp) (t : TypeId) (ox oy : Operand) (hx : VR θ x x') (hy : VR θ y y') (hox : shutA x = true) (hoy : shutA y = true) (h1 : x = .nilIface → y = .nilIface → False)
    (h2 : ∀ a b, x = .agg a → y = .agg b → (op = .eql ∨ op = .neq) → P.eqGuardType P.depth t = false) (w : World) : (eqGuard op t ox oy x' y').run P w = .ok () w := by
  unfold eqGuard
  by_cases ho : op = .eql ∨ op = .neq
  · have hop : (match op with | .eql | .neq => true | _ => false) = true := by rcases ho with rfl | rfl <;> rfl
    cases x' <;> cases y' <;> first
      | (rcases ho with rfl | rfl <;> rfl)
      | (cases hx <;> first | (simp [shutA] at hox; done) | (cases hy <;> first | (simp [shutA] at hoy; done) | exact (h1 rfl rfl).elim))
      | (cases hx <;> first | (simp [shutA] at hox; done) | (cases hy <;> first | (simp [shutA] at hoy; done) | (have := h2 _ _ rfl rfl ho; rcases ho with rfl | rfl <;> simp [this])))
  · cases op <;> first | rfl | simp at ho

theorem sameA_agg {ty : Tr TI} {d : Nat} {t : TypeId} {a b : List AV} {r : Bool} (h : sameA ty d t (.agg a) (.agg b) = some r) : ∃ ti, ty.get t = some ti ∧ ti.kd.isAgg = true ∧ ti.hid = false := by
  cases d with
  | zero => simp [sameA] at h
  | succ d =>
    simp only [sameA] at h
    split at h
    · cases h
    · rename_i ti hti
      refine ⟨ti, hti, ?_⟩
      cases hk : ti.kd <;> simp only [hk, reduceCtorEq] at h
      split at h
      · cases h
      · rename_i hh; exact ⟨rfl, hh⟩

theorem binA_sound {P : Program} {ty : Tr TI} (hty : TyOk P ty) {θ : Th} {op : BinOp} {t : TypeId} {x y v : AV} {x' y' : Value} (hx : VR θ x x') (hy : VR θ y y') (h : binA ty op t x y = some v) (ox oy : Operand) (w : World) :
    ∃ v', ((do eqGuard op t ox oy x' y'; binOp op t x' y') : Sem Value).run P w = .ok v' w ∧ VR θ v v' := by
  unfold binA at h
  split at h
  · rename_i k a k' b
    cases hx; cases hy
    have hg : (eqGuard op t ox oy (.int k a) (.int k' b)).run P w = .ok () w := by cases op <;> rfl
    cases op
    case shl =>
      simp only at h
      split at h
      · cases h
      · rename_i hb
        simp only [Option.some.injEq] at h; subst h
        rw [ltI_eq] at hb
        have hb' : ¬ b < 0 := by simpa using hb
        exact ⟨_, by simp [hg, binOp, Op.shift, hb'], .int _ _⟩
    case shr =>
      simp only at h
      split at h
      · cases h
      · rename_i hb
        simp only [Option.some.injEq] at h; subst h
        rw [ltI_eq] at hb
        have hb' : ¬ b < 0 := by simpa using hb
        exact ⟨_, by simp [hg, binOp, Op.shift, hb'], .int _ _⟩
    case quo =>
      simp only at h
      split at h
      · cases h
      · rename_i hk
        obtain rfl := kindEq_eq hk
        split at h
        · cases h
        · rename_i hb
          simp only [Option.some.injEq] at h; subst h
          rw [eqI_eq] at hb
          have hb' : ¬ b = 0 := by simpa using hb
          exact ⟨.int k (k.wrap (a.tdiv b)), by simp [hg, binOp, Op.intDiv, hb'], .int _ _⟩
    case rem =>
      simp only at h
      split at h
      · cases h
      · rename_i hk
        obtain rfl := kindEq_eq hk
        split at h
        · cases h
        · rename_i hb
          simp only [Option.some.injEq] at h; subst h
          rw [eqI_eq] at hb
          have hb' : ¬ b = 0 := by simpa using hb
          exact ⟨.int k (a.tmod b), by simp [hg, binOp, Op.intDiv, hb'], .int _ _⟩
    case and =>
      simp only at h
      split at h
      · cases h
      · rename_i hk
        obtain rfl := kindEq_eq hk
        simp only [Option.some.injEq] at h; subst h
        exact ⟨_, by simp [hg, binOp, Op.intBits], .int _ _⟩
    case or =>
      simp only at h
      split at h
      · cases h
      · rename_i hk
        obtain rfl := kindEq_eq hk
        simp only [Option.some.injEq] at h; subst h
        exact ⟨_, by simp [hg, binOp, Op.intBits], .int _ _⟩
    case xor =>
      simp only at h
      split at h
      · cases h
      · rename_i hk
        obtain rfl := kindEq_eq hk
        simp only [Option.some.injEq] at h; subst h
        exact ⟨_, by simp [hg, binOp, Op.intBits], .int _ _⟩
    all_goals
      simp only at h
      split at h
      · cases h
      · rename_i hk
        obtain rfl := kindEq_eq hk
        first
          | (cases h; done)
          | (simp only [Option.some.injEq] at h; subst h
             refine ⟨_, by simp only [Sem.run_bind, hg, Result.andThen_ok]; simp only [binOp, ne_eq, not_true_eq_false, if_false, Op.intArith, Op.intBits, Op.intCmp, Sem.run_pure]; rfl, ?_⟩
             simp only [wrapA_eq, addI_eq, subI_eq, ltI_eq, eqI_eq]
             first | exact .int _ _ | exact .bool _ | skip
             done)
          | (simp only [Option.some.injEq] at h; subst h
             refine ⟨_, by simp only [Sem.run_bind, hg, Result.andThen_ok]; simp only [binOp, ne_eq, not_true_eq_false, if_false, Op.intArith, Op.intBits, Op.intCmp, Sem.run_pure]; rfl, ?_⟩
             simp only [ltI_eq, eqI_eq]
             first
               | (have e : (!a == b) = (a != b) := rfl; rw [e]; exact .bool _)
               | (have e : (!decide (b < a)) = decide (a ≤ b) := by rw [Bool.eq_iff_iff]; simp
                  rw [e]; exact .bool _)
               | (have e : (!decide (a < b)) = decide (a ≥ b) := by rw [Bool.eq_iff_iff]; simp
                  rw [e]; exact .bool _)
               | (have e : (decide (b < a)) = decide (a > b) := rfl
                  rw [e]; exact .bool _))
  · rename_i a b
    cases hx; cases hy
    rename_i s1 s2
    have hg : (eqGuard op t ox oy (.string s1) (.string s2)).run P w = .ok () w := by cases op <;> rfl
    have he := bytes_eq s1 s2
    have hl := less_eq s1.data.toList s2.data.toList
    cases op <;> simp only [reduceCtorEq] at h
    case add =>
      split at h
      · rename_i hle
        have hle := Nat.le_of_ble_eq_true hle
        simp only [Option.some.injEq] at h; subst h
        simp only [List.length_map, Array.length_toList] at hle
        have e1 : s1.size + s2.size ≤ 1000000000 := hle
        refine ⟨.string (s1 ++ s2), ?_, ?_⟩
        · simp only [Sem.run_bind, hg, Result.andThen_ok, binOp, Op.stringOp]
          rw [if_neg (by simp [IntKind.max, IntKind.bits, IntKind.signed]; omega)]
          rfl
        · have := VR.str (θ := θ) (s1 ++ s2)
          simpa using this
      · cases h
    case eql =>
      simp only [Option.some.injEq] at h; subst h
      exact ⟨_, by simp [hg, binOp, Op.stringOp]; rfl, by rw [he, ← sameStr_eq]; exact .bool _⟩
    case neq =>
      simp only [Option.some.injEq] at h; subst h
      exact ⟨_, by simp [hg, binOp, Op.stringOp]; rfl, by rw [he, ← sameStr_eq]; exact .bool _⟩
    case lss =>
      simp only [Option.some.injEq] at h; subst h
      exact ⟨_, by simp [hg, binOp, Op.stringOp]; rfl, by rw [Lib.toList_data, Lib.toList_data, ← hl]; exact .bool _⟩
  · cases h
  · rename_i h1 h2 h3
    split at h
    · split at h
      · rename_i b hb
        simp only [Option.some.injEq] at h
        subst h
        have hg := guard_run (P := P) .eql t ox oy hx hy (sameA_shut hb).1 (sameA_shut hb).2 h3 (fun a b e1 e2 _ => by
          subst e1; subst e2
          obtain ⟨ti, hti, hk, hh⟩ := sameA_agg hb
          exact ((hty t ti hti).eqg hk hh).1) w
        refine ⟨.bool b, ?_, .bool _⟩
        rw [eql_run t hx hy (sameA_shut hb).1 (sameA_shut hb).2 h1 h2]
        simp [hg, Op.equal, sameA_sound hty 6 Op.maxDepth t x y x' y' b (by decide) hx hy hb]
      · cases h
    · split at h
      · rename_i b hb
        simp only [Option.some.injEq] at h
        subst h
        have hg := guard_run (P := P) .neq t ox oy hx hy (sameA_shut hb).1 (sameA_shut hb).2 h3 (fun a b e1 e2 _ => by
          subst e1; subst e2
          obtain ⟨ti, hti, hk, hh⟩ := sameA_agg hb
          exact ((hty t ti hti).eqg hk hh).1) w
        refine ⟨.bool !b, ?_, .bool _⟩
        rw [neq_run t hx hy (sameA_shut hb).1 (sameA_shut hb).2 h1 h2]
        simp [hg, Op.equal, sameA_sound hty 6 Op.maxDepth t x y x' y' b (by decide) hx hy hb]
      · cases h
    · cases h
end Go.Exe
namespace Go.Exe
open Go.RowKit
set_option linter.unusedSectionVars false
variable [Opn]

/-! ### Open values -/
theorem toNats_append (a b : ByteArray) : toNats (a ++ b) = toNats a ++ toNats b := by
  simp [toNats, ByteArray.data_append]
theorem toNats_ne {s : ByteArray} {n : Nat} (h : s.size = n.succ) : ¬ s.data.toList.map UInt8.toNat = [] := by
  intro e
  have := congrArg List.length e
  simp only [List.length_map, Array.length_toList, List.length_nil] at this
  have h2 : s.size = 0 := this
  omega

theorem factS_some {v : Value} {l : List Nat} {b : Bool} : ∀ {fs : List AV}, (∀ f ∈ fs, FactOk v f) → factS l fs = some b → ∃ s, v = .string s ∧ decide (toNats s = l) = b
  | [], _, h => by simp [factS] at h
  | f :: fs, hf, h => by
    simp only [factS] at h
    split at h
    · split at h
      · rename_i l' b' hs
        rw [sameStr_eq, decide_eq_true_eq] at hs
        simp only [Option.some.injEq] at h
        subst hs h
        exact hf _ List.mem_cons_self
      · exact factS_some (fun f hm => hf f (List.mem_cons_of_mem _ hm)) h
    · exact factS_some (fun f hm => hf f (List.mem_cons_of_mem _ hm)) h

theorem factI_some {v : Value} {k : IntKind} {c : Int} {e l g : Bool} : ∀ {fs : List AV}, (∀ f ∈ fs, FactOk v f) → factI k c fs = some (e, l, g) → ∃ n, v = .int k n ∧ decide (n = c) = e ∧ decide (n < c) = l ∧ decide (c < n) = g
  | [], _, h => by simp [factI] at h
  | f :: fs, hf, h => by
    simp only [factI] at h
    split at h
    · split at h
      · rename_i hk hc
        obtain rfl := kindEq_eq hk
        rw [eqI_eq, beq_iff_eq] at hc
        simp only [Option.some.injEq, Prod.mk.injEq] at h
        obtain ⟨rfl, rfl, rfl⟩ := h
        subst hc
        exact hf _ List.mem_cons_self
      · exact factI_some (fun f hm => hf f (List.mem_cons_of_mem _ hm)) h
    · exact factI_some (fun f hm => hf f (List.mem_cons_of_mem _ hm)) h

theorem isText_some {v : Value} {fs : List AV} (hf : ∀ f ∈ fs, FactOk v f) (h : isText fs = true) : ∃ s, v = .string s := by
  unfold isText at h
  split at h
  · exact hf _ List.mem_cons_self
  · cases h

theorem opnA_sound {P : Program} {θ : Th} {op : BinOp} {t : TypeId} {x y v : AV} {x' y' : Value} (hx : VR θ x x') (hy : VR θ y y') (h : opnA op x y = some v) (ox oy : Operand) (w : World) :
    ∃ v', ((do eqGuard op t ox oy x' y'; binOp op t x' y') : Sem Value).run P w = .ok v' w ∧ VR θ v v' := by
  unfold opnA at h
  split at h
  · rename_i n fs l
    cases hx
    case func hp _ _ => simp [plainFn] at hp
    rename_i h1 h2 h3
    cases hy
    rename_i s2
    split at h
    · rename_i r hr
      obtain ⟨s, rfl, hs⟩ := factS_some h3 hr
      have he := bytes_eq s s2
      simp only [Option.some.injEq] at h
      subst h
      refine ⟨.bool (s.toList == s2.toList), by rfl, ?_⟩
      rw [he]
      unfold toNats at hs
      rw [hs]
      exact .bool _
    · rename_i r hr
      obtain ⟨s, rfl, hs⟩ := factS_some h3 hr
      have he := bytes_eq s s2
      simp only [Option.some.injEq] at h
      subst h
      refine ⟨.bool (!(s.toList == s2.toList)), by rfl, ?_⟩
      rw [he]
      unfold toNats at hs
      rw [hs]
      exact .bool _
    · cases h
  · rename_i n fs k c
    cases hx
    case func hp _ _ => simp [plainFn] at hp
    rename_i h1 h2 h3
    cases hy
    split at h
    all_goals first
      | (cases h; done)
      | (rename_i e l g hr
         obtain ⟨n, rfl, he, hl, hg⟩ := factI_some h3 hr
         simp only [Option.some.injEq] at h
         subst h
         refine ⟨_, by simp [eqGuard, binOp, Op.intCmp, Op.intArith, Op.intBits]; rfl, ?_⟩
         skip)
      | (rename_i e hr
         obtain ⟨n, rfl, he, hl, hg⟩ := factI_some h3 hr
         simp only [Option.some.injEq] at h
         subst h
         refine ⟨_, by simp [eqGuard, binOp, Op.intCmp, Op.intArith, Op.intBits]; rfl, ?_⟩
         skip)
    all_goals first
      | (rw [show (n == c) = e from he ▸ (by rw [Bool.eq_iff_iff]; simp)]; exact .bool _)
      | (rw [show (n != c) = !e from by rw [← he, Bool.eq_iff_iff]; simp]; exact .bool _)
      | (rw [show decide (n ≤ c) = !g from by rw [← hg, Bool.eq_iff_iff]; simp]; exact .bool _)
      | (rw [show decide (c ≤ n) = !l from by rw [← hl, Bool.eq_iff_iff]; simp]; exact .bool _)
      | (rw [hl]; exact .bool _)
      | (rw [hg]; exact .bool _)
  · rename_i n fs n' fs'
    cases hx
    case func hp _ _ => simp [plainFn] at hp
    rename_i h1 h2 h3
    cases hy
    case func hp _ _ => simp [plainFn] at hp
    rename_i h4 h5 h6
    split at h
    all_goals first
      | (cases h; done)
      | (rename_i ht hn
         obtain rfl := Nat.eq_of_beq_eq_true hn
         obtain ⟨s, rfl⟩ := isText_some h3 ht
         obtain rfl := h2.symm.trans h5
         simp only [Option.some.injEq] at h
         subst h
         refine ⟨_, by rfl, ?_⟩
         simp only [beq_self_eq_true, Bool.not_true, bne_self_eq_false]
         exact .bool _)
  · rename_i n l
    cases hx
    case func hp _ _ => simp [plainFn] at hp
    rename_i s1 h1
    cases hy
    rename_i s2
    split at h
    · rename_i hle
      have hle := Nat.le_of_ble_eq_true hle
      simp only [Option.some.injEq] at h; subst h
      simp only [List.length_map, Array.length_toList] at hle ⊢
      have e1 : n + s2.size ≤ 1000000000 := hle
      have hg : (eqGuard .add t ox oy (.string s1) (.string s2)).run P w = .ok () w := rfl
      refine ⟨.string (s1 ++ s2), ?_, ?_⟩
      · simp only [Sem.run_bind, hg, Result.andThen_ok, binOp, Op.stringOp]
        rw [if_neg (by simp [IntKind.max, IntKind.bits, IntKind.signed]; omega)]
        rfl
      · exact .anyS _ _ (by rw [ByteArray.size_append]; show s1.size + s2.size ≤ n + s2.size; omega)
    · cases h
  · rename_i l n
    cases hx
    rename_i s1
    cases hy
    case func hp _ _ => simp [plainFn] at hp
    rename_i s2 h1
    split at h
    · rename_i hle
      have hle := Nat.le_of_ble_eq_true hle
      simp only [Option.some.injEq] at h; subst h
      simp only [List.length_map, Array.length_toList] at hle ⊢
      have e1 : s1.size + n ≤ 1000000000 := hle
      have hg : (eqGuard .add t ox oy (.string s1) (.string s2)).run P w = .ok () w := rfl
      refine ⟨.string (s1 ++ s2), ?_, ?_⟩
      · simp only [Sem.run_bind, hg, Result.andThen_ok, binOp, Op.stringOp]
        rw [if_neg (by simp [IntKind.max, IntKind.bits, IntKind.signed]; omega)]
        rfl
      · exact .anyS _ _ (by rw [ByteArray.size_append]; show s1.size + s2.size ≤ s1.size + n; omega)
    · cases h
  · rename_i n ps l
    cases hx
    case func hp _ _ => simp [plainFn] at hp
    rename_i s1 h1 hr
    cases hy
    rename_i s2
    split at h
    · split at h
      · rename_i hle
        have hle := Nat.le_of_ble_eq_true hle
        simp only [Option.some.injEq] at h; subst h
        simp only [List.length_map, Array.length_toList] at hle ⊢
        have e1 : s1.size + s2.size ≤ 1000000000 := h1 ▸ hle
        have hg : (eqGuard .add t ox oy (.string s1) (.string s2)).run P w = .ok () w := rfl
        refine ⟨.string (s1 ++ s2), ?_, ?_⟩
        · simp only [Sem.run_bind, hg, Result.andThen_ok, binOp, Op.stringOp]
          rw [if_neg (by simp [IntKind.max, IntKind.bits, IntKind.signed]; omega)]
          rfl
        · exact .rope _ _ _ (by rw [ByteArray.size_append, h1]; rfl) (by rw [toNats_append]; exact hr.append (RopeOk.one _))
      · cases h
    · split at h
      · rename_i hl
        have he := bytes_eq s1 s2
        simp only [Option.some.injEq] at h; subst h
        refine ⟨.bool (s1.toList == s2.toList), by rfl, ?_⟩
        rw [he, hl, decide_eq_false (toNats_ne h1)]
        exact .bool _
      · cases h
    · split at h
      · rename_i hl
        have he := bytes_eq s1 s2
        simp only [Option.some.injEq] at h; subst h
        refine ⟨.bool (!(s1.toList == s2.toList)), by rfl, ?_⟩
        rw [he, hl, decide_eq_false (toNats_ne h1)]
        exact .bool _
      · cases h
    · cases h
  · rename_i l n ps
    cases hx
    rename_i s1
    cases hy
    case func hp _ _ => simp [plainFn] at hp
    rename_i s2 h1 hr
    split at h
    · rename_i hle
      have hle := Nat.le_of_ble_eq_true hle
      simp only [Option.some.injEq] at h; subst h
      simp only [List.length_map, Array.length_toList] at hle ⊢
      have e1 : s1.size + s2.size ≤ 1000000000 := h1 ▸ hle
      have hg : (eqGuard .add t ox oy (.string s1) (.string s2)).run P w = .ok () w := rfl
      refine ⟨.string (s1 ++ s2), ?_, ?_⟩
      · simp only [Sem.run_bind, hg, Result.andThen_ok, binOp, Op.stringOp]
        rw [if_neg (by simp [IntKind.max, IntKind.bits, IntKind.signed]; omega)]
        rfl
      · exact .rope _ _ _ (by rw [ByteArray.size_append, h1]; rfl) (by rw [toNats_append]; exact (RopeOk.one _).append hr)
    · cases h
  · rename_i n ps m qs
    cases hx
    case func hp _ _ => simp [plainFn] at hp
    rename_i s1 h1 hr1
    cases hy
    case func hp _ _ => simp [plainFn] at hp
    rename_i s2 h2 hr2
    split at h
    · rename_i hle
      have hle := Nat.le_of_ble_eq_true hle
      simp only [Option.some.injEq] at h; subst h
      have e1 : s1.size + s2.size ≤ 1000000000 := h1 ▸ h2 ▸ hle
      have hg : (eqGuard .add t ox oy (.string s1) (.string s2)).run P w = .ok () w := rfl
      refine ⟨.string (s1 ++ s2), ?_, ?_⟩
      · simp only [Sem.run_bind, hg, Result.andThen_ok, binOp, Op.stringOp]
        rw [if_neg (by simp [IntKind.max, IntKind.bits, IntKind.signed]; omega)]
        rfl
      · exact .rope _ _ _ (by rw [ByteArray.size_append, h1, h2]) (by rw [toNats_append]; exact hr1.append hr2)
    · cases h
  · cases h
end Go.Exe
