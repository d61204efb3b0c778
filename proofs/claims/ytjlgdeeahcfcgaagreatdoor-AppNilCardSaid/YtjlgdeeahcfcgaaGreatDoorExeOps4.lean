/- The executor: slices, conversions, assertions, built-in calls; and all together. -/
import Derived.Test.YtjlgdeeahcfcgaaGreatDoorExeOps
set_option linter.unusedVariables false
set_option linter.unusedSimpArgs false
namespace Go.Exe
set_option linter.unusedSectionVars false
variable [Opn]
open Go.RowKit

section
variable {P : Program} {ty : Tr TI} {θ : Th} {B : Nat} {h : Tr AObj} {w : World} {nt : Nat} {T : Tr AV} {a : Act} {nm : Nat} {v : AV} {ob : Option AObj}

theorem pu_convert (c : PC P ty θ B h.get w nt T a) {o : Oper} {s d : TypeId} {x : Operand} (ho : o.op = .convert s d x) (hp : pureOp ty h nm T (.convert s d x) = some (v, ob)) : Came P a o w θ nm v ob := by
  simp only [pureOp, pupick, pualloc, pubox, pubuild, pubuildSlice, puload, punilCheck, pubinOp, puunOp, puconvert, pumakeInterface, pumakeFunc, puslice, pufieldAddr, pufield, puindexAddr, puindex, pulookup, puextract, putypeAssert, pulen, pumin, pumax] at hp
  split at hp
  · rename_i ts td u hts htd hx
    obtain ⟨S, hS, hKs⟩ := (c.ty _ _ hts).und
    obtain ⟨D, hD, hKd⟩ := (c.ty _ _ htd).und
    have hx := c.ev hx
    split at hp
    · rename_i k k' n hk hx0
      rw [hk] at hKd
      obtain rfl := kd_int hKd
      simp only [Option.some.injEq, Prod.mk.injEq] at hp
      obtain ⟨rfl, rfl⟩ := hp
      simp only [Came, execOp, ho]
      generalize a.eval x = x' at hx
      cases hx
      rw [wrapA_eq]
      refine ⟨_, ?_, .int _ _⟩
      simp only [convert, Sem.run_bind, run_underlying hS, run_underlying hD, Result.andThen_ok]
      cases S <;> rfl
    · rename_i l hk hx0
      rw [hk] at hKd
      obtain rfl := kd_str hKd
      simp only [Option.some.injEq, Prod.mk.injEq] at hp
      obtain ⟨rfl, rfl⟩ := hp
      simp only [Came, execOp, ho]
      generalize a.eval x = x' at hx
      cases hx
      refine ⟨_, ?_, .str _⟩
      simp only [convert, Sem.run_bind, run_underlying hS, run_underlying hD, Result.andThen_ok]
      cases S <;> rfl
    · rename_i ab len r m hk hx0
      rw [hk] at hKd
      obtain rfl := kd_str hKd
      split at hp
      · rename_i e hks
        rw [hks] at hKs
        obtain rfl := kd_slice hKs
        split at hp
        · rename_i te hte
          split at hp
          · rename_i hke
            obtain ⟨E, hE, hKe⟩ := (c.ty _ _ hte).und
            rw [hke] at hKe
            obtain rfl := kd_int hKe
            split at hp
            · simp only [Option.some.injEq, Prod.mk.injEq] at hp
              obtain ⟨rfl, rfl⟩ := hp
              simp only [Came, execOp, ho]
              generalize a.eval x = x' at hx
              cases hx
              refine ⟨.string .empty, ?_, VR.str ByteArray.empty⟩
              simp [convert, run_underlying hS, run_underlying hD, run_underlying hE, Conv.bytesToString]
            · rename_i n off
              split at hp
              · rename_i cs e0 mo hn
                split at hp
                · rename_i l hl
                  split at hp
                  · rename_i bs hbs
                    simp only [Option.some.injEq, Prod.mk.injEq] at hp
                    obtain ⟨rfl, rfl⟩ := hp
                    have hrun : ∀ (ad : Addr) (cp : Nat), (∃ l', VRs θ l l' ∧ (loadCells ad len).run P w = .ok l'.toArray w) → ∃ v', ((convert s d (.slice (some ad) len cp)).run P w).andThen (fun v w' => .ok (Next.value v) w') = .ok (.value v') w ∧ VR θ (.str bs) v' := by
                      intro ad cp ⟨l', h1, h2⟩
                      obtain ⟨rfl, h3⟩ := bytes_of l h1 hbs
                      obtain ⟨sr, h4, h5⟩ := run_bytes cp h2 h3
                      refine ⟨.string sr, ?_, by rw [← h5]; exact .str _⟩
                      simp [convert, run_underlying hS, run_underlying hD, run_underlying hE, h4]
                    have hcell : ∀ b, θ.blk n = some b → ∃ l', VRs θ l l' ∧ (loadCells ⟨b, off, none⟩ len).run P w = .ok l'.toArray w := by
                      intro b hb
                      obtain ⟨cc, fr, pre, rest, h1, h2, h3, _⟩ := c.hr.cell hn hb
                      obtain ⟨h4, h5⟩ := h3.cut' hl
                      have hlen : ((pre.drop off).take len).length = len := by simp; omega
                      have hsame : ((pre.drop off).take len) = (cc.toList.drop off).take len := by
                        rw [h2]
                        rcases h5 with h5 | h5
                        · rw [h5]; simp
                        · rw [List.drop_append_of_le_length (by omega), List.take_append_of_le_length (by simp; omega)]
                      have := cells_at h1 off ((pre.drop off).take len) (by rw [hlen]; exact hsame) P
                      rw [hlen] at this
                      exact ⟨_, h4, this⟩
                    simp only [Came, execOp, ho, Sem.run_bind, Sem.run_pure]
                    generalize a.eval x = x' at hx
                    cases hx
                    case slice => exact hrun _ _ (hcell _ (by assumption))
                    case sliceS => exact hrun _ _ (hcell _ (by assumption))
                    case slice0 => exact hrun _ _ ⟨[], by
                      have : l = [] := by simp only [cut, Exe.take, Option.some.injEq] at hl; exact hl.symm
                      rw [this]; exact .nil, by simp [loadCells, loadCellsFrom]⟩
                  · cases hp
                · cases hp
              · cases hp
          · cases hp
        · cases hp
      · cases hp
    · cases hp
  · cases hp

theorem take_eq {α : Type} : ∀ (l : List α) (n : Nat) (r : List α), Exe.take l n = some r → r = l.take n
  | l, 0, r, h => by cases l <;> (simp only [Exe.take, Option.some.injEq] at h; subst h; simp)
  | [], n + 1, r, h => by simp [Exe.take] at h
  | x :: xs, n + 1, r, h => by
    simp only [Exe.take] at h
    split at h
    · rename_i l hl
      simp only [Option.some.injEq] at h
      subst h
      rw [take_eq xs n l hl]; simp
    · cases h
theorem drop_eq {α : Type} : ∀ (l : List α) (n : Nat), Exe.drop l n = l.drop n
  | l, 0 => by cases l <;> simp [Exe.drop]
  | [], n + 1 => by simp [Exe.drop]
  | x :: xs, n + 1 => by simp [Exe.drop, drop_eq xs n]

theorem bound_sound (c : PC P ty θ B h.get w nt T a) {d n : Nat} {x : Option Operand} (hb : bound? T d x = some n) : (x = none ∧ n = d) ∨ ∃ y k, x = some y ∧ a.eval y = .int k (n : Nat) := by
  cases x with
  | none => simp only [bound?, Option.some.injEq] at hb; exact .inl ⟨rfl, hb.symm⟩
  | some y =>
    simp only [bound?] at hb
    split at hb
    · rename_i u hu
      obtain ⟨k, rfl⟩ := nat?_eq hb
      have := c.ev hu
      generalize hy : a.eval y = y' at this
      cases this
      exact .inr ⟨y, k, rfl, hy⟩
    · cases hb

/-- The bounds hold. -/
theorem bounds_run {P : Program} {w : World} {isS : Bool} {len cap l h : Nat} {lo hi : Option Operand} {f : Operand → Value} (hlo : (lo = none ∧ l = 0) ∨ ∃ y k, lo = some y ∧ f y = .int k (l : Nat)) (hhi : (hi = none ∧ h = len) ∨ ∃ y k, hi = some y ∧ f y = .int k (h : Nat))
    (h1 : l ≤ h) (h2 : h ≤ cap) : (Instr.sliceBounds isS len cap (lo.map f) (hi.map f) none).run P w = .ok (l, h, cap) w := by
  have hH : ((match hi.map f, (none : Option Value) with
    | some v, some _ => Instr.sliceBound v cap .slice3B
    | some v, none => Instr.sliceBound v cap (if isS then .sliceAcap else .sliceAlen)
    | none, none => pure len
    | none, some _ => stuck "Slice: max without high") : Sem Nat).run P w = .ok h w := by
    rcases hhi with ⟨rfl, rfl⟩ | ⟨y, k, rfl, hy⟩
    · rfl
    · simp [hy, Instr.sliceBound, asIntOf, h2]
  have hL : ((match lo.map f with
    | some v => Instr.sliceBound v h (if (none : Option Value).isSome then .slice3C else .sliceB)
    | none => pure 0) : Sem Nat).run P w = .ok l w := by
    rcases hlo with ⟨rfl, rfl⟩ | ⟨y, k, rfl, hy⟩
    · rfl
    · simp [hy, Instr.sliceBound, asIntOf, h1]
  rcases hhi with ⟨rfl, rfl⟩ | ⟨y, k, rfl, hy⟩ <;> rcases hlo with ⟨rfl, rfl⟩ | ⟨y', k', rfl, hy'⟩ <;> simp [Instr.sliceBounds, Instr.sliceBound, asIntOf, h1, h2, *]

theorem pu_slice (c : PC P ty θ B h.get w nt T a) {o : Oper} {t : TypeId} {x : Operand} {lo hi mx : Option Operand} (ho : o.op = .slice t x lo hi mx) (hp : pureOp ty h nm T (.slice t x lo hi mx) = some (v, ob)) : Came P a o w θ nm v ob := by
  cases mx with
  | some m => simp [pureOp, pupick, pualloc, pubox, pubuild, pubuildSlice, puload, punilCheck, pubinOp, puunOp, puconvert, pumakeInterface, pumakeFunc, puslice, pufieldAddr, pufield, puindexAddr, puindex, pulookup, puextract, putypeAssert, pulen, pumin, pumax] at hp
  | none =>
  simp only [pureOp, pupick, pualloc, pubox, pubuild, pubuildSlice, puload, punilCheck, pubinOp, puunOp, puconvert, pumakeInterface, pumakeFunc, puslice, pufieldAddr, pufield, puindexAddr, puindex, pulookup, puextract, putypeAssert, pulen, pumin, pumax] at hp
  split at hp
  · rename_i ti u hti hx
    obtain ⟨D, hD, hK⟩ := (c.ty _ _ hti).und
    have hx := c.ev hx
    split at hp
    · rename_i s hk hx0
      rw [hk] at hK
      obtain rfl := kd_str hK
      split at hp
      · rename_i l hh hl hh'
        split at hp
        · rename_i hle1 hle2
          split at hp
          · rename_i r hr
            simp only [Option.some.injEq, Prod.mk.injEq] at hp
            obtain ⟨rfl, rfl⟩ := hp
            have h1 := Nat.le_of_ble_eq_true hle1
            have h2 := Nat.le_of_ble_eq_true hle2
            simp only [Came, execOp, ho]
            generalize a.eval x = x' at hx
            cases hx
            rename_i s
            have hsz : s.data.toList.length = s.size := by simp
            rw [List.length_map, hsz] at h2
            rw [List.length_map, hsz] at hh'
            have hb := bounds_run (P := P) (w := w) (isS := false) (len := s.size) (cap := s.size) (f := a.eval) (bound_sound c hl) (bound_sound c hh') h1 h2
            refine ⟨.string (s.extract l hh), ?_, ?_⟩
            · simp [Instr.sliceAt, Instr.slice, run_underlying hD, hb]
            · have := VR.str (θ := θ) (s.extract l hh)
              have e : (s.extract l hh).data.toList.map UInt8.toNat = r := by
                rw [take_eq _ _ _ hr, drop_eq, ByteArray.data_extract, Array.toList_extract, List.extract_eq_take_drop, List.map_take, List.map_drop]
              rw [e] at this
              exact this
          · cases hp
        · cases hp
      · cases hp
    · rename_i e ab len room more hk hx0
      rw [hk] at hK
      obtain rfl := kd_slice hK
      split at hp
      · rename_i te l hh hte hl hh'
        have hb : ∀ cap, hh ≤ cap → l ≤ hh → (Instr.sliceBounds true len cap (lo.map a.eval) (hi.map a.eval) none).run P w = .ok (l, hh, cap) w := fun cap h2 h1 => bounds_run (bound_sound c hl) (bound_sound c hh') h1 h2
        have hsz := (c.ty _ _ hte).size
        have hrun : ∀ (ad : Option Addr) (cap : Nat), hh ≤ cap → l ≤ hh → ((Instr.sliceAt t (.slice ad len cap) (lo.map a.eval) (hi.map a.eval) none).run P w) = .ok (.slice (if cap = l then ad else ad.map (·.add (l * te.size))) (hh - l) (cap - l)) w := by
          intro ad cap h1 h2
          simp [Instr.sliceAt, Instr.slice, run_underlying hD, hb cap h1 h2, hsz]
        simp only [Came, execOp, ho, Option.map_none, Sem.run_bind, Sem.run_pure]
        generalize a.eval x = x' at hx
        split at hp
        · rename_i hc1 hc2 hc3
          have hc1 := Nat.le_of_ble_eq_true hc1
          have hc2 := Nat.le_of_ble_eq_true hc2
          have hc3 := Nat.le_of_ble_eq_true hc3
          split at hp
          · rename_i n off
            simp only [Option.some.injEq, Prod.mk.injEq] at hp
            obtain ⟨rfl, rfl⟩ := hp
            cases hx
            case slice =>
              refine ⟨_, by rw [hrun _ _ (by omega) hc1, if_neg (by omega)]; rfl, ?_⟩
              simp only [Option.map_some, addr_add]
              exact .slice _ _ _ _ _ _ (by omega) (by assumption)
            case sliceS =>
              refine ⟨_, by rw [hrun _ _ (by omega) hc1, if_neg (by omega)]; rfl, ?_⟩
              simp only [Option.map_some, addr_add]
              refine .sliceS _ _ _ _ _ _ _ _ ?_ (by assumption) (by assumption)
              omega
            case slice0 => omega
          · cases hp
        · rename_i hc1 hc2 hc3
          have hc1 := Nat.le_of_ble_eq_true hc1
          have hc2 := Nat.le_of_ble_eq_true hc2
          have hc3 : ¬ (l + 1 ≤ len + room) := fun h => by rw [Nat.ble_eq_true_of_le h] at hc3; cases hc3
          cases l with
          | zero =>
            simp only [Option.some.injEq, Prod.mk.injEq] at hp
            obtain ⟨rfl, rfl⟩ := hp
            have e1 : len = 0 := by omega
            have e2 : room = 0 := by omega
            have e3 : hh = 0 := by omega
            subst e1; subst e2; subst e3
            have hsame : ∀ (ad : Option Addr) (cap : Nat), (if cap = 0 then ad else ad.map (·.add (0 * te.size))) = ad := by
              intro ad cap
              split
              · rfl
              · cases ad <;> simp [Addr.add]
            cases hx
            case sliceN => exact ⟨_, by rw [hrun _ _ (by omega) (by omega), hsame]; rfl, .sliceN _ _ _ (by omega)⟩
            case slice => exact ⟨_, by rw [hrun _ _ (by omega) (by omega), hsame]; rfl, .slice _ _ _ _ _ _ (by omega) (by assumption)⟩
            case sliceS => exact ⟨_, by rw [hrun _ _ (by omega) (by omega), hsame]; rfl, by refine .sliceS _ _ _ _ _ _ _ _ ?_ (by assumption) (by assumption); omega⟩
            case slice0 => exact ⟨_, by rw [hrun _ _ (by omega) (by omega), hsame]; rfl, .slice0 _ _ _ _⟩
          | succ l =>
            simp only at hp
            split at hp
            · rename_i n off
              simp only [Option.some.injEq, Prod.mk.injEq] at hp
              obtain ⟨rfl, rfl⟩ := hp
              cases hx
              exact ⟨_, by rw [hrun _ _ (by omega) hc1, if_pos (by omega)]; rfl, .slice _ _ _ _ _ _ (by omega) (by assumption)⟩
            · rename_i n off m
              simp only [Option.some.injEq, Prod.mk.injEq] at hp
              obtain ⟨rfl, rfl⟩ := hp
              cases hx
              case sliceS =>
                rename_i b xx cp hcp hbk hxx
                by_cases h0 : xx = 0
                · refine ⟨_, by rw [hrun _ _ (by omega) hc1, if_pos (by omega)]; rfl, ?_⟩
                  have e1 : hh - (l + 1) = 0 := by omega
                  have e2 : len + room - hh = 0 := by omega
                  have e3 : cp - (l + 1) = 0 := by omega
                  rw [e1, e2, e3]
                  exact .slice0 _ _ _ _
                · refine ⟨_, by rw [hrun _ _ (by omega) hc1, if_neg (by omega)]; rfl, ?_⟩
                  simp only [Option.map_some, addr_add]
                  refine .sliceS _ _ _ _ _ _ _ _ ?_ (by assumption) (by assumption)
                  omega
              case slice0 => omega
            · cases hp
        · cases hp
      · cases hp
    · rename_i n e hk hx0
      rw [hk] at hK
      obtain rfl := kd_array hK
      simp only [pusarr] at hp
      split at hp
      rotate_left
      · cases hp
      rename_i b off
      split at hp
      · rename_i te l hh hte hl hh'
        have hb : ∀ (_ : hh ≤ n) (_ : l ≤ hh), (Instr.sliceBounds false n n (lo.map a.eval) (hi.map a.eval) none).run P w = .ok (l, hh, n) w := fun h2 h1 => bounds_run (bound_sound c hl) (bound_sound c hh') h1 h2
        have hsz := (c.ty _ _ hte).size
        simp only [Came, execOp, ho, Option.map_none, Sem.run_bind, Sem.run_pure]
        generalize a.eval x = x' at hx
        cases hx
        rename_i b' hb'
        have hrun : ∀ (_ : hh ≤ n) (_ : l ≤ hh), ((Instr.sliceAt t (.pointer (some ⟨b', off, none⟩)) (lo.map a.eval) (hi.map a.eval) none).run P w) = .ok (.slice (some (if n = l then ⟨b', off, none⟩ else (⟨b', off, none⟩ : Addr).add (l * te.size))) (hh - l) (n - l)) w := by
          intro h1 h2
          simp [Instr.sliceAt, Instr.sureAddr, run_underlying hD, hb h1 h2, hsz]
        split at hp
        · rename_i hc1 hc2 hc3
          have hc1 := Nat.le_of_ble_eq_true hc1
          have hc2 := Nat.le_of_ble_eq_true hc2
          have hc3 := Nat.le_of_ble_eq_true hc3
          simp only [Option.some.injEq, Prod.mk.injEq] at hp
          obtain ⟨rfl, rfl⟩ := hp
          refine ⟨_, by rw [hrun (by omega) hc1, if_neg (by omega)]; rfl, ?_⟩
          rw [addr_add]
          exact .slice _ _ _ _ _ _ (by omega) hb'
        · rename_i hc1 hc2 hc3
          have hc1 := Nat.le_of_ble_eq_true hc1
          have hc2 := Nat.le_of_ble_eq_true hc2
          have hc3 : ¬ (l + 1 ≤ n) := fun h => by rw [Nat.ble_eq_true_of_le h] at hc3; cases hc3
          simp only [Option.some.injEq, Prod.mk.injEq] at hp
          obtain ⟨rfl, rfl⟩ := hp
          refine ⟨_, by rw [hrun (by omega) hc1, if_pos (by omega)]; rfl, ?_⟩
          exact .slice _ _ _ _ _ _ (by omega) hb'
        · cases hp
      · cases hp
    · cases hp
  · cases hp

theorem pu_typeAssert (c : PC P ty θ B h.get w nt T a) {o : Oper} {t u : TypeId} {x : Operand} {ok : Bool} (ho : o.op = .typeAssert x t u ok) (hp : pureOp ty h nm T (.typeAssert x t u ok) = some (v, ob)) : Came P a o w θ nm v ob := by
  simp only [pureOp, pupick, pualloc, pubox, pubuild, pubuildSlice, puload, punilCheck, pubinOp, puunOp, puconvert, pumakeInterface, pumakeFunc, puslice, pufieldAddr, pufield, puindexAddr, puindex, pulookup, puextract, putypeAssert, pulen, pumin, pumax] at hp
  split at hp
  · rename_i t' v' ti hx hti
    obtain ⟨D, hD, hK⟩ := (c.ty _ _ hti).und
    have hx := c.ev hx
    split at hp
    · cases hp
    · cases hp
    · rename_i h1 h2
      split at hp
      · rename_i he
        have he := Nat.eq_of_beq_eq_true he
        subst he
        simp only [Option.some.injEq, Prod.mk.injEq] at hp
        obtain ⟨rfl, rfl⟩ := hp
        have hn : ∀ m, D ≠ .interface m := fun m e => by
          subst e
          cases hk : ti.kd <;> rw [hk] at hK <;> first | exact hK.elim | exact h1 hk | exact h2 hk
        simp only [Came, execOp, ho]
        generalize a.eval x = x' at hx
        cases hx
        rename_i v'' hv
        refine ⟨_, ?_, okA_sound true hv⟩
        simp only [Instr.typeAssert, Sem.run_bind, run_underlying hD, Result.andThen_ok]
        cases D <;> first | (exact (hn _ rfl).elim) | (simp; done) | (simp; rfl)
      · cases hp
  · rename_i ti hx hti
    obtain ⟨D, hD, hK⟩ := (c.ty _ _ hti).und
    have hx := c.ev hx
    split at hp
    · cases hp
    · cases hp
    · rename_i h1 h2
      split at hp
      · rename_i z hz
        simp only [Option.some.injEq, Prod.mk.injEq] at hp
        obtain ⟨rfl, rfl⟩ := hp
        have hn : ∀ m, D ≠ .interface m := fun m e => by
          subst e
          cases hk : ti.kd <;> rw [hk] at hK <;> first | exact hK.elim | exact h1 hk | exact h2 hk
        simp only [Came, execOp, ho]
        generalize a.eval x = x' at hx
        cases hx
        obtain ⟨z', hz1, hz2⟩ := zeroOf_sound (c.ty _ _ hti) θ hz
        refine ⟨.tuple #[z', .bool false], ?_, VR.tuple _ [z', .bool false] (.cons _ _ _ _ hz2 (.cons _ _ _ _ (.bool _) .nil))⟩
        simp only [Instr.typeAssert, Sem.run_bind, run_underlying hD, Result.andThen_ok]
        cases D <;> first | (exact (hn _ rfl).elim) | (simp [hz1]; done)
      · cases hp
    · cases hp
  · cases hp

theorem pu_call (c : PC P ty θ B h.get w nt T a) {o : Oper} {cl : Call} (ho : o.op = .call cl) (hp : pureOp ty h nm T (.call cl) = some (v, ob)) : Came P a o w θ nm v ob := by
  obtain ⟨callee, args, argTypes⟩ := cl
  cases callee with
  | value f => simp [pureOp, pupick, pualloc, pubox, pubuild, pubuildSlice, puload, punilCheck, pubinOp, puunOp, puconvert, pumakeInterface, pumakeFunc, puslice, pufieldAddr, pufield, puindexAddr, puindex, pulookup, puextract, putypeAssert, pulen, pumin, pumax] at hp
  | invoke r m => simp [pureOp, pupick, pualloc, pubox, pubuild, pubuildSlice, puload, punilCheck, pubinOp, puunOp, puconvert, pumakeInterface, pumakeFunc, puslice, pufieldAddr, pufield, puindexAddr, puindex, pulookup, puextract, putypeAssert, pulen, pumin, pumax] at hp
  | builtin b =>
    have hres : (execOp a.eval o).run P w = (builtin b argTypes o.type (args.map fun | .const _ => true | _ => false) (args.map a.eval)).run P w := by
      simp only [execOp, ho, resolve, invoke, Sem.run_bind, Sem.run_pure, Result.andThen_ok]
      rfl
    cases b <;> (try (simp [pureOp, pupick, pualloc, pubox, pubuild, pubuildSlice, puload, punilCheck, pubinOp, puunOp, puconvert, pumakeInterface, pumakeFunc, puslice, pufieldAddr, pufield, puindexAddr, puindex, pulookup, puextract, putypeAssert, pulen, pumin, pumax] at hp; done))
    case len =>
      simp only [pureOp, pupick, pualloc, pubox, pubuild, pubuildSlice, puload, punilCheck, pubinOp, puunOp, puconvert, pumakeInterface, pumakeFunc, puslice, pufieldAddr, pufield, puindexAddr, puindex, pulookup, puextract, putypeAssert, pulen, pumin, pumax] at hp
      split at hp
      · rename_i t x hat har
        have e1 : argTypes = #[t] := by apply Array.ext'; simpa using hat
        have e2 : args = #[x] := by apply Array.ext'; simpa using har
        subst e1; subst e2
        split at hp
        · rename_i ti u hti hx
          obtain ⟨D, hD, hK⟩ := (c.ty _ _ hti).und
          have hx := c.ev hx
          simp only [Came]
          split at hp
          · rename_i s hk hx0
            rw [hk] at hK
            obtain rfl := kd_str hK
            simp only [Option.some.injEq, Prod.mk.injEq] at hp
            obtain ⟨rfl, rfl⟩ := hp
            simp only [hres]
            simp only [List.map_toArray, List.map_cons, List.map_nil]
            generalize a.eval x = x' at hx
            cases hx
            rename_i s
            refine ⟨goInt s.size, by simp [builtin, Builtin.len_, run_underlying hD], ?_⟩
            have : (List.map UInt8.toNat s.data.toList).length = s.size := by simp
            rw [this]
            exact .int _ _
          · rename_i n ps hk hx0
            rw [hk] at hK
            obtain rfl := kd_str hK
            simp only [Option.some.injEq, Prod.mk.injEq] at hp
            obtain ⟨rfl, rfl⟩ := hp
            simp only [hres]
            simp only [List.map_toArray, List.map_cons, List.map_nil]
            generalize a.eval x = x' at hx
            cases hx
            case func hp _ _ => simp [plainFn] at hp
            rename_i s h1 hr
            refine ⟨goInt s.size, by simp [builtin, Builtin.len_, run_underlying hD], ?_⟩
            rw [h1]
            exact .int _ _
          · rename_i e ab len room more hk hx0
            rw [hk] at hK
            obtain rfl := kd_slice hK
            simp only [Option.some.injEq, Prod.mk.injEq] at hp
            obtain ⟨rfl, rfl⟩ := hp
            simp only [hres]
            simp only [List.map_toArray, List.map_cons, List.map_nil]
            generalize a.eval x = x' at hx
            refine ⟨goInt len, ?_, .int _ _⟩
            cases hx <;> simp [builtin, Builtin.len_, run_underlying hD]
          · rename_i k e hk hx0
            rw [hk] at hK
            obtain rfl := kd_map hK
            simp only [Option.some.injEq, Prod.mk.injEq] at hp
            obtain ⟨rfl, rfl⟩ := hp
            simp only [hres]
            simp only [List.map_toArray, List.map_cons, List.map_nil]
            generalize a.eval x = x' at hx
            cases hx
            exact ⟨goInt 0, by simp [builtin, Builtin.len_, run_underlying hD], .int _ _⟩
          · rename_i k e r hk hx0
            rw [hk] at hK
            obtain rfl := kd_map hK
            split at hp
            · rename_i es cl hn
              simp only [Option.some.injEq, Prod.mk.injEq] at hp
              obtain ⟨rfl, rfl⟩ := hp
              simp only [hres]
              simp only [List.map_toArray, List.map_cons, List.map_nil]
              generalize a.eval x = x' at hx
              cases hx
              rename_i b hb
              obtain ⟨es', h1, h2⟩ := c.hr.map hn hb
              refine ⟨goInt es'.size, by simp [builtin, Builtin.len_, run_underlying hD, run_getObj_map (P := P) h1], ?_⟩
              have := h2.length
              simp only [Array.length_toList] at this
              rw [← this]
              exact .int _ _
            · cases hp
          · cases hp
        · cases hp
      · cases hp
    case min =>
      simp only [pureOp, pupick, pualloc, pubox, pubuild, pubuildSlice, puload, punilCheck, pubinOp, puunOp, puconvert, pumakeInterface, pumakeFunc, puslice, pufieldAddr, pufield, puindexAddr, puindex, pulookup, puextract, putypeAssert, pulen, pumin, pumax] at hp
      split at hp
      · rename_i x y har
        have e2 : args = #[x, y] := by apply Array.ext'; simpa using har
        subst e2
        split at hp
        · rename_i k m k' n hx hy
          have hx := c.ev hx
          have hy := c.ev hy
          simp only [Option.some.injEq, Prod.mk.injEq] at hp
          obtain ⟨rfl, rfl⟩ := hp
          simp only [Came, hres]
          simp only [List.map_toArray, List.map_cons, List.map_nil]
          generalize a.eval x = x' at hx
          generalize a.eval y = y' at hy
          cases hx; cases hy
          refine ⟨.int k (if n < m then n else m), by simp [builtin, Builtin.min_, Builtin.min2], ?_⟩
          rw [ltI_eq]
          by_cases hlt : n < m
          · simp only [hlt, decide_true, if_true]; exact .int _ _
          · simp only [hlt, decide_false, if_false]; exact .int _ _
        · cases hp
      · cases hp
    case max =>
      simp only [pureOp, pupick, pualloc, pubox, pubuild, pubuildSlice, puload, punilCheck, pubinOp, puunOp, puconvert, pumakeInterface, pumakeFunc, puslice, pufieldAddr, pufield, puindexAddr, puindex, pulookup, puextract, putypeAssert, pulen, pumin, pumax] at hp
      split at hp
      · rename_i x y har
        have e2 : args = #[x, y] := by apply Array.ext'; simpa using har
        subst e2
        split at hp
        · rename_i k m k' n hx hy
          have hx := c.ev hx
          have hy := c.ev hy
          simp only [Option.some.injEq, Prod.mk.injEq] at hp
          obtain ⟨rfl, rfl⟩ := hp
          simp only [Came, hres]
          simp only [List.map_toArray, List.map_cons, List.map_nil]
          generalize a.eval x = x' at hx
          generalize a.eval y = y' at hy
          cases hx; cases hy
          refine ⟨.int k (if n > m then n else m), by simp [builtin, Builtin.max_, Builtin.max2], ?_⟩
          rw [ltI_eq]
          by_cases hlt : m < n
          · simp only [hlt, decide_true, gt_iff_lt, if_true]; exact .int _ _
          · simp only [hlt, decide_false, gt_iff_lt, if_false]; exact .int _ _
        · cases hp
      · cases hp

theorem pure_sound (c : PC P ty θ B h.get w nt T a) (o : Oper) (hp : pureOp ty h nm T o.op = some (v, ob)) : Came P a o w θ nm v ob := by
  cases ho : o.op <;> rw [ho] at hp
  case move x => exact pu_ev c (.inl ho) hp
  case assign x => exact pu_ev c (.inr ho) hp
  case pick => exact pu_pick c ho hp
  case alloc => exact pu_alloc c ho hp
  case box => exact pu_box c ho hp
  case build => exact pu_build c ho hp
  case buildSlice => exact pu_buildSlice c ho hp
  case load => exact pu_load c ho hp
  case nilCheck => exact pu_nilCheck c ho hp
  case binOp => exact pu_binOp c ho hp
  case unOp => exact pu_unOp c ho hp
  case convert => exact pu_convert c ho hp
  case makeInterface => exact pu_makeInterface c ho hp
  case makeFunc => exact pu_makeFunc c ho hp
  case makeMap => exact pu_makeMap c ho hp
  case slice => exact pu_slice c ho hp
  case makeSlice => exact pu_makeSlice c ho hp
  case fieldAddr => exact pu_fieldAddr c ho hp
  case field => exact pu_field c ho hp
  case indexAddr => exact pu_indexAddr c ho hp
  case index => exact pu_index c ho hp
  case lookup => exact pu_lookup c ho hp
  case extract => exact pu_extract c ho hp
  case typeAssert => exact pu_typeAssert c ho hp
  case call => exact pu_call c ho hp
  all_goals simp [pureOp, pupick, pualloc, pubox, pubuild, pubuildSlice, puload, punilCheck, pubinOp, puunOp, puconvert, pumakeInterface, pumakeFunc, puslice, pufieldAddr, pufield, puindexAddr, puindex, pulookup, puextract, putypeAssert, pulen, pumin, pumax] at hp
end
end Go.Exe
