/- The executor: an operation that changes nothing comes to what it is said to. -/
import Derived.Test.YtlngchhjdnalbaaGreatDoorExeOps
set_option linter.unusedVariables false
set_option linter.unusedSimpArgs false
namespace Go.Exe
open Go.RowKit

structure PC (P : Program) (ty : Tr TI) (θ : Th) (B : Nat) (h : Nat → Option AObj) (w : World) (nt : Nat) (T : Tr AV) (a : Act) : Prop where
  ty : TyOk P ty
  hr : HR θ B h w
  tr : TR θ nt T a
  glob : ∀ g, g < 64 → θ.blk g = some g

section
variable {P : Program} {ty : Tr TI} {θ : Th} {B : Nat} {h : Tr AObj} {w : World} {nt : Nat} {T : Tr AV} {a : Act} {nm : Nat} {v : AV} {ob : Option AObj}

theorem PC.ev (c : PC P ty θ B h.get w nt T a) {x : Operand} {v : AV} (h : ev T x = some v) : VR θ v (a.eval x) := ev_sound c.tr c.glob h

theorem pu_ev (c : PC P ty θ B h.get w nt T a) {o : Oper} {x : Operand} (ho : o.op = .move x ∨ o.op = .assign x) (hp : (match ev T x with | some v => some (v, none) | none => none) = some (v, ob)) : Came P a o w θ nm v ob := by
  split at hp
  · rename_i u hu
    simp only [Option.some.injEq, Prod.mk.injEq] at hp
    obtain ⟨rfl, rfl⟩ := hp
    refine ⟨_, ?_, c.ev hu⟩
    rcases ho with ho | ho <;> simp [execOp, ho]
  · cases hp

theorem pu_pick (c : PC P ty θ B h.get w nt T a) {o : Oper} {x y z : Operand} (ho : o.op = .pick x y z) (hp : pureOp ty h nm T (.pick x y z) = some (v, ob)) : Came P a o w θ nm v ob := by
  simp only [pureOp, pupick, pualloc, pubox, pubuild, pubuildSlice, puload, punilCheck, pubinOp, puunOp, puconvert, pumakeInterface, pumakeFunc, puslice, pufieldAddr, pufield, puindexAddr, puindex, pulookup, puextract, putypeAssert, pulen, pumin, pumax] at hp
  split at hp
  · rename_i hx
    have h1 := c.ev hx
    split at hp
    · rename_i u hu
      simp only [Option.some.injEq, Prod.mk.injEq] at hp
      obtain ⟨rfl, rfl⟩ := hp
      refine ⟨_, ?_, c.ev hu⟩
      simp only [execOp, ho]
      generalize a.eval x = x' at h1
      cases h1
      simp [asBool]
    · cases hp
  · rename_i hx
    have h1 := c.ev hx
    split at hp
    · rename_i u hu
      simp only [Option.some.injEq, Prod.mk.injEq] at hp
      obtain ⟨rfl, rfl⟩ := hp
      refine ⟨_, ?_, c.ev hu⟩
      simp only [execOp, ho]
      generalize a.eval x = x' at h1
      cases h1
      simp [asBool]
    · cases hp
  · cases hp

theorem OR_new {θ : Th} {cs : List AV} {cs' : Array Value} {e : TypeId} (h : VRs θ cs cs'.toList) : OR θ (.cells cs e none) (.cells cs' e) ∧ Loose (.cells cs' e) :=
  ⟨⟨rfl, cs'.toList, [], by simp, h, fun _ _ e => by cases e⟩, .inl rfl⟩

theorem pu_alloc (c : PC P ty θ B h.get w nt T a) {o : Oper} {e : TypeId} (ho : o.op = .alloc e) (hp : pureOp ty h nm T (.alloc e) = some (v, ob)) : Came P a o w θ nm v ob := by
  simp only [pureOp, pupick, pualloc, pubox, pubuild, pubuildSlice, puload, punilCheck, pubinOp, puunOp, puconvert, pumakeInterface, pumakeFunc, puslice, pufieldAddr, pufield, puindexAddr, puindex, pulookup, puextract, putypeAssert, pulen, pumin, pumax] at hp
  split at hp
  · rename_i ti hti
    simp only [Option.some.injEq, Prod.mk.injEq] at hp
    obtain ⟨rfl, rfl⟩ := hp
    obtain ⟨z, hz, hz2, _⟩ := (c.ty _ _ hti).zero
    refine ⟨.pointer (some ⟨w.heap.size, 0, none⟩), .cells z.cells e, ?_, fun θ' hl hb => ⟨.ptr _ _ _ hb, OR_new (hz2 θ')⟩⟩
    simp [execOp, ho, Instr.alloc, hz, newVar, newRow]
  · cases hp

theorem pu_box (c : PC P ty θ B h.get w nt T a) {o : Oper} {e : TypeId} {x : Operand} (ho : o.op = .box e x) (hp : pureOp ty h nm T (.box e x) = some (v, ob)) : Came P a o w θ nm v ob := by
  simp only [pureOp, pupick, pualloc, pubox, pubuild, pubuildSlice, puload, punilCheck, pubinOp, puunOp, puconvert, pumakeInterface, pumakeFunc, puslice, pufieldAddr, pufield, puindexAddr, puindex, pulookup, puextract, putypeAssert, pulen, pumin, pumax] at hp
  split at hp
  · rename_i u hu
    simp only [Option.some.injEq, Prod.mk.injEq] at hp
    obtain ⟨rfl, rfl⟩ := hp
    have h1 := (c.ev hu).cells
    refine ⟨.pointer (some ⟨w.heap.size, 0, none⟩), .cells (a.eval x).cells e, ?_, fun θ' hl hb => ⟨.ptr _ _ _ hb, OR_new (h1.mono hl)⟩⟩
    simp [execOp, ho, Instr.box, newVar, newRow]
  · cases hp

theorem places_run {fs : List Field} {fis : List FI} (hf : FsOk P fs fis) (w : World) : (fs.mapM (fun f => (do pure (f.offset, ← sizeOf f.type) : Sem (Nat × Nat)))).run P w = .ok (fis.map fun f => (f.off, f.size)) w := by
  induction hf with
  | nil => simp
  | cons f fi fs fis hf _ ih =>
    obtain ⟨h1, h2, h3, _⟩ := hf
    simp only [List.mapM_cons, Sem.run_bind, h3, Result.andThen_ok, ih, Sem.run_pure, h1, List.map_cons]

theorem listGet_eq {α : Type} : ∀ (l : List α) (i : Nat), listGet l i = l[i]?
  | [], i => by simp [listGet]
  | x :: xs, 0 => by simp [listGet]
  | x :: xs, i + 1 => by simp [listGet, listGet_eq xs i]

theorem pu_build (c : PC P ty θ B h.get w nt T a) {o : Oper} {t : TypeId} {ps : Array (Nat × Operand)} (ho : o.op = .build t ps) (hp : pureOp ty h nm T (.build t ps) = some (v, ob)) : Came P a o w θ nm v ob := by
  simp only [pureOp, pupick, pualloc, pubox, pubuild, pubuildSlice, puload, punilCheck, pubinOp, puunOp, puconvert, pumakeInterface, pumakeFunc, puslice, pufieldAddr, pufield, puindexAddr, puindex, pulookup, puextract, putypeAssert, pulen, pumin, pumax] at hp
  split at hp
  · rename_i ti hti
    split at hp
    · rename_i fis hk
      split at hp
      · rename_i cs hcs
        simp only [Option.some.injEq, Prod.mk.injEq] at hp
        obtain ⟨rfl, rfl⟩ := hp
        have ht := c.ty _ _ hti
        obtain ⟨z, hz, hz2, _⟩ := ht.zero
        obtain ⟨D, hD, hkd⟩ := ht.und
        rw [hk] at hkd
        obtain ⟨fs, rfl, hF⟩ := kd_struct hkd
        obtain ⟨r', h1, h2⟩ := fillA_sound c.tr c.glob fis ((fis.map fun f => (f.off, f.size)).toArray[·]?) (fun i f hf => by rw [listGet_eq] at hf; simp [hf]) ps.toList _ _ z.cells (hz2 θ) hcs
        refine ⟨.agg r', ?_, by have := VR.agg _ _ h2; simpa using this⟩
        have hpl := places_run hF w
        have e : (fs.mapM (fun f => (do pure (f.offset, ← sizeOf f.type) : Sem (Nat × Nat)))).run P w = .ok (fis.map fun f => (f.off, f.size)).toArray w := by
          rw [Array.mapM_eq_mapM_toList]
          simp only [Sem.run_map, hpl, Result.andThen_ok]
        simp only [execOp, ho, Instr.build, Sem.run_bind, hz, Result.andThen_ok, run_underlying hD, e]
        have e2 : (ps.map fun x => (x.1, a.eval x.2)).toList = ps.toList.map fun x => (x.1, a.eval x.2) := by simp
        rw [e2, h1]
        rfl
      · cases hp
    · cases hp
  · cases hp

theorem pu_buildSlice (c : PC P ty θ B h.get w nt T a) {o : Oper} {t : TypeId} {n : Nat} {ps : Array (Nat × Operand)} (ho : o.op = .buildSlice t n ps) (hp : pureOp ty h nm T (.buildSlice t n ps) = some (v, ob)) : Came P a o w θ nm v ob := by
  simp only [pureOp, pupick, pualloc, pubox, pubuild, pubuildSlice, puload, punilCheck, pubinOp, puunOp, puconvert, pumakeInterface, pumakeFunc, puslice, pufieldAddr, pufield, puindexAddr, puindex, pulookup, puextract, putypeAssert, pulen, pumin, pumax] at hp
  split at hp
  · rename_i ti hti
    split at hp
    · rename_i e hk
      split at hp
      · rename_i te hte
        split at hp
        · rename_i hle
          split at hp
          · rename_i cs hcs
            simp only [Option.some.injEq, Prod.mk.injEq] at hp
            obtain ⟨rfl, rfl⟩ := hp
            obtain ⟨D, hD, hkd⟩ := (c.ty _ _ hti).und
            rw [hk] at hkd
            obtain rfl := kd_slice hkd
            have hte := c.ty _ _ hte
            obtain ⟨z, hz, hz2, hz3⟩ := hte.zero
            have hle := Nat.le_of_ble_eq_true hle
            have hsz := hz3.2.2
            have e0 : ((Array.range 0).map (fun x => (#[] : Array Value)[x % (#[] : Array Value).size]!)).toList = [] := by simp
            have e2 : (ps.map fun x => (x.1, a.eval x.2)).toList = ps.toList.map fun x => (x.1, a.eval x.2) := by simp
            have h3 : ¬ (n * te.size > 2 ^ 24) := by omega
            by_cases h0 : n * te.size = 0
            · have hR : VRs θ (repA te.zero n) ((Array.range (n * te.size)).map ((#[] : Array Value)[· % (#[] : Array Value).size]!)).toList := by
                rw [h0, e0]
                rcases Nat.mul_eq_zero.1 h0 with rfl | h1
                · exact .nil
                · have : te.zero = [] := by
                    have := (hz2 θ).length
                    simp only [Array.length_toList] at this
                    exact List.eq_nil_of_length_eq_zero (by omega)
                  rw [this]
                  have : ∀ n, repA ([] : List AV) n = [] := fun n => by induction n <;> simp_all [repA]
                  rw [this]
                  exact .nil
              obtain ⟨r', h1, h2⟩ := fillS_sound c.tr c.glob te.size ps.toList _ _ _ hR hcs
              refine ⟨.slice (some ⟨w.heap.size, 0, none⟩) n n, .cells r' e, ?_, fun θ' hl hb => ⟨.slice _ _ _ _ _ _ rfl hb, OR_new (h2.mono hl)⟩⟩
              simp only [execOp, ho, Instr.buildSlice, Sem.run_bind, run_underlying hD, Result.andThen_ok, hte.size, h3, if_false, if_true, Sem.run_ite, Sem.run_pure, h0]
              rw [h0] at h1
              rw [e2, h1]
              rfl
            · have hR : VRs θ (repA te.zero n) ((Array.range (n * te.size)).map (z.cells[· % z.cells.size]!)).toList := by
                have := rep_row z.cells.toList n
                simp only [Array.length_toList, Array.toArray_toList] at this
                rw [← hsz, this]
                exact repA_sound (hz2 θ) n
              obtain ⟨r', h1, h2⟩ := fillS_sound c.tr c.glob te.size ps.toList _ _ _ hR hcs
              refine ⟨.slice (some ⟨w.heap.size, 0, none⟩) n n, .cells r' e, ?_, fun θ' hl hb => ⟨.slice _ _ _ _ _ _ rfl hb, OR_new (h2.mono hl)⟩⟩
              simp only [execOp, ho, Instr.buildSlice, Sem.run_bind, run_underlying hD, Result.andThen_ok, hte.size, h3, if_false, Sem.run_ite, Sem.run_pure, h0, hz]
              rw [e2, h1]
              rfl
          · cases hp
        · cases hp
      · cases hp
    · cases hp
  · cases hp

theorem pu_load (c : PC P ty θ B h.get w nt T a) {o : Oper} {t : TypeId} {x : Operand} (ho : o.op = .load t x) (hp : pureOp ty h nm T (.load t x) = some (v, ob)) : Came P a o w θ nm v ob := by
  simp only [pureOp, pupick, pualloc, pubox, pubuild, pubuildSlice, puload, punilCheck, pubinOp, puunOp, puconvert, pumakeInterface, pumakeFunc, puslice, pufieldAddr, pufield, puindexAddr, puindex, pulookup, puextract, putypeAssert, pulen, pumin, pumax] at hp
  split at hp
  · cases hp
  · rename_i ti hti
    split at hp
    · rename_i n o' hx
      split at hp
      · rename_i cs e mo hn
        split at hp
        · rename_i u hu
          simp only [Option.some.injEq, Prod.mk.injEq] at hp
          obtain ⟨rfl, rfl⟩ := hp
          have h1 := c.ev hx
          simp only [Came, execOp, ho]
          generalize a.eval x = x' at h1
          cases h1
          rename_i b hb
          obtain ⟨v', h2, h3⟩ := loadVar_sound (c.ty _ _ hti) c.hr hn hb hu
          exact ⟨v', by simp [Instr.loadAt, Instr.sureAddr, h2], h3⟩
        · cases hp
      · cases hp
    · cases hp

theorem pu_nilCheck (c : PC P ty θ B h.get w nt T a) {o : Oper} {x : Operand} (ho : o.op = .nilCheck x) (hp : pureOp ty h nm T (.nilCheck x) = some (v, ob)) : Came P a o w θ nm v ob := by
  simp only [pureOp, pupick, pualloc, pubox, pubuild, pubuildSlice, puload, punilCheck, pubinOp, puunOp, puconvert, pumakeInterface, pumakeFunc, puslice, pufieldAddr, pufield, puindexAddr, puindex, pulookup, puextract, putypeAssert, pulen, pumin, pumax] at hp
  split at hp
  · rename_i hx
    have h1 := c.ev hx
    simp only [Option.some.injEq, Prod.mk.injEq] at hp
    obtain ⟨rfl, rfl⟩ := hp
    simp only [Came, execOp, ho]
    generalize a.eval x = x' at h1
    cases h1
    exact ⟨_, rfl, .ptr _ _ _ ‹_›⟩
  · rename_i hx
    have h1 := c.ev hx
    simp only [Option.some.injEq, Prod.mk.injEq] at hp
    obtain ⟨rfl, rfl⟩ := hp
    simp only [Came, execOp, ho]
    generalize a.eval x = x' at h1
    cases h1
    exact ⟨_, rfl, .func _ _ _ _ _ ‹_› ‹_›⟩
  · cases hp

theorem pu_binOp (c : PC P ty θ B h.get w nt T a) {o : Oper} {op : BinOp} {t t' : TypeId} {x y : Operand} (ho : o.op = .binOp op t x y t') (hp : pureOp ty h nm T (.binOp op t x y t') = some (v, ob)) : Came P a o w θ nm v ob := by
  simp only [pureOp, pupick, pualloc, pubox, pubuild, pubuildSlice, puload, punilCheck, pubinOp, puunOp, puconvert, pumakeInterface, pumakeFunc, puslice, pufieldAddr, pufield, puindexAddr, puindex, pulookup, puextract, putypeAssert, pulen, pumin, pumax] at hp
  split at hp
  · rename_i u1 u2 hx hy
    split at hp
    · rename_i u hu
      simp only [Option.some.injEq, Prod.mk.injEq] at hp
      obtain ⟨rfl, rfl⟩ := hp
      obtain ⟨v', h1, h2⟩ := binA_sound c.ty (c.ev hx) (c.ev hy) hu x y w
      refine ⟨v', ?_, h2⟩
      simp only [execOp, ho]
      simp only [Sem.run_bind] at h1 ⊢
      rw [h1]
      rfl
    · cases hp
  · cases hp

theorem pu_unOp (c : PC P ty θ B h.get w nt T a) {o : Oper} {op : UnOp} {t : TypeId} {x : Operand} (ho : o.op = .unOp op t x) (hp : pureOp ty h nm T (.unOp op t x) = some (v, ob)) : Came P a o w θ nm v ob := by
  simp only [pureOp, pupick, pualloc, pubox, pubuild, pubuildSlice, puload, punilCheck, pubinOp, puunOp, puconvert, pumakeInterface, pumakeFunc, puslice, pufieldAddr, pufield, puindexAddr, puindex, pulookup, puextract, putypeAssert, pulen, pumin, pumax] at hp
  split at hp
  · rename_i b hx
    have h1 := c.ev hx
    simp only [Option.some.injEq, Prod.mk.injEq] at hp
    obtain ⟨rfl, rfl⟩ := hp
    simp only [Came, execOp, ho]
    generalize a.eval x = x' at h1
    cases h1
    exact ⟨_, by simp [Op.unary], .bool _⟩
  · rename_i k n hx
    have h1 := c.ev hx
    simp only [Option.some.injEq, Prod.mk.injEq] at hp
    obtain ⟨rfl, rfl⟩ := hp
    simp only [Came, execOp, ho]
    generalize a.eval x = x' at h1
    cases h1
    exact ⟨.int k (k.wrap (0 - n)), by simp [Op.unary, Op.intArith], .int _ _⟩
  · cases hp

theorem pu_makeInterface (c : PC P ty θ B h.get w nt T a) {o : Oper} {t : TypeId} {x : Operand} (ho : o.op = .makeInterface t x) (hp : pureOp ty h nm T (.makeInterface t x) = some (v, ob)) : Came P a o w θ nm v ob := by
  simp only [pureOp, pupick, pualloc, pubox, pubuild, pubuildSlice, puload, punilCheck, pubinOp, puunOp, puconvert, pumakeInterface, pumakeFunc, puslice, pufieldAddr, pufield, puindexAddr, puindex, pulookup, puextract, putypeAssert, pulen, pumin, pumax] at hp
  split at hp
  · rename_i ti u hti hx
    obtain ⟨D, hD, hkd⟩ := (c.ty _ _ hti).und
    split at hp
    · cases hp
    · cases hp
    · rename_i h1 h2
      simp only [Option.some.injEq, Prod.mk.injEq] at hp
      obtain ⟨rfl, rfl⟩ := hp
      refine ⟨.iface t (a.eval x), ?_, .iface _ _ _ (c.ev hx)⟩
      have : ∀ m, D ≠ .interface m := fun m e => by
        subst e
        cases hk : ti.kd <;> rw [hk] at hkd <;> first | exact hkd.elim | exact h1 hk | exact h2 hk
      simp only [execOp, ho, Instr.makeInterface, Sem.run_bind, run_underlying hD, Result.andThen_ok]
      cases D <;> first | (exact (this _ rfl).elim) | rfl
  · cases hp

theorem pu_makeFunc (c : PC P ty θ B h.get w nt T a) {o : Oper} {f : Fn} {x y : Array Operand} (ho : o.op = .makeFunc f x y) (hp : pureOp ty h nm T (.makeFunc f x y) = some (v, ob)) : Came P a o w θ nm v ob := by
  simp only [pureOp, pupick, pualloc, pubox, pubuild, pubuildSlice, puload, punilCheck, pubinOp, puunOp, puconvert, pumakeInterface, pumakeFunc, puslice, pufieldAddr, pufield, puindexAddr, puindex, pulookup, puextract, putypeAssert, pulen, pumin, pumax] at hp
  split at hp
  · rename_i l1 l2 h1 h2
    simp only [Option.some.injEq, Prod.mk.injEq] at hp
    obtain ⟨rfl, rfl⟩ := hp
    have e1 := evs_sound c.tr c.glob _ _ h1
    have e2 := evs_sound c.tr c.glob _ _ h2
    refine ⟨.func f (x.map a.eval) (y.map a.eval), by simp [execOp, ho, Instr.makeFunc], ?_⟩
    have := VR.func f _ _ _ _ e1 e2
    have e3 : ∀ z : Array Operand, (z.toList.map a.eval).toArray = z.map a.eval := fun z => by apply Array.ext'; simp
    rw [e3, e3] at this
    exact this
  · cases hp

theorem pu_makeMap (_c : PC P ty θ B h.get w nt T a) {o : Oper} {t : TypeId} {r : Option Operand} (ho : o.op = .makeMap t r) (hp : pureOp ty h nm T (.makeMap t r) = some (v, ob)) : Came P a o w θ nm v ob := by
  cases r with
  | some r => simp [pureOp, pupick, pualloc, pubox, pubuild, pubuildSlice, puload, punilCheck, pubinOp, puunOp, puconvert, pumakeInterface, pumakeFunc, puslice, pufieldAddr, pufield, puindexAddr, puindex, pulookup, puextract, putypeAssert, pulen, pumin, pumax] at hp
  | none =>
    simp only [pureOp, pupick, pualloc, pubox, pubuild, pubuildSlice, puload, punilCheck, pubinOp, puunOp, puconvert, pumakeInterface, pumakeFunc, puslice, pufieldAddr, pufield, puindexAddr, puindex, pulookup, puextract, putypeAssert, pulen, pumin, pumax, Option.some.injEq, Prod.mk.injEq] at hp
    obtain ⟨rfl, rfl⟩ := hp
    refine ⟨.map (some w.heap.size), .map #[] 0, by simp [execOp, ho, Instr.makeMap], fun θ' _ hb => ⟨.map _ _ hb, ⟨rfl, .nil⟩, trivial⟩⟩

theorem pu_fieldAddr (c : PC P ty θ B h.get w nt T a) {o : Oper} {t : TypeId} {x : Operand} {f : Nat} (ho : o.op = .fieldAddr t x f) (hp : pureOp ty h nm T (.fieldAddr t x f) = some (v, ob)) : Came P a o w θ nm v ob := by
  simp only [pureOp, pupick, pualloc, pubox, pubuild, pubuildSlice, puload, punilCheck, pubinOp, puunOp, puconvert, pumakeInterface, pumakeFunc, puslice, pufieldAddr, pufield, puindexAddr, puindex, pulookup, puextract, putypeAssert, pulen, pumin, pumax] at hp
  split at hp
  · rename_i ti n off hti hx
    split at hp
    · rename_i fis hk
      split at hp
      · rename_i fi hf
        split at hp
        · cases hp
        · rename_i sz hsz
          simp only [Option.some.injEq, Prod.mk.injEq] at hp
          obtain ⟨rfl, rfl⟩ := hp
          obtain ⟨D, hD, hkd⟩ := (c.ty _ _ hti).und
          rw [hk] at hkd
          obtain ⟨fs, rfl, hF⟩ := kd_struct hkd
          obtain ⟨fd, h1, h2, h3, h4, _⟩ := hF.get hf
          have h1 : fs[f]? = some fd := by simpa using h1
          have hx := c.ev hx
          simp only [Came, execOp, ho]
          generalize a.eval x = x' at hx
          cases hx
          rename_i b hb
          refine ⟨_, ?_, .ptr _ _ _ hb⟩
          simp [Instr.fieldAt, run_underlying hD, h1, Instr.sureAddr, fieldPlace, h4, hsz, addr_add, h2]
      · cases hp
    · cases hp
  · cases hp

theorem pu_field (c : PC P ty θ B h.get w nt T a) {o : Oper} {t : TypeId} {x : Operand} {f : Nat} (ho : o.op = .field t x f) (hp : pureOp ty h nm T (.field t x f) = some (v, ob)) : Came P a o w θ nm v ob := by
  simp only [pureOp, pupick, pualloc, pubox, pubuild, pubuildSlice, puload, punilCheck, pubinOp, puunOp, puconvert, pumakeInterface, pumakeFunc, puslice, pufieldAddr, pufield, puindexAddr, puindex, pulookup, puextract, putypeAssert, pulen, pumin, pumax] at hp
  split at hp
  · rename_i ti cs hti hx
    split at hp
    · rename_i fis hk
      split at hp
      · rename_i fi hf
        split at hp
        · rename_i u hu
          simp only [Option.some.injEq, Prod.mk.injEq] at hp
          obtain ⟨rfl, rfl⟩ := hp
          obtain ⟨D, hD, hkd⟩ := (c.ty _ _ hti).und
          rw [hk] at hkd
          obtain ⟨fs, rfl, hF⟩ := kd_struct hkd
          obtain ⟨fd, h1, h2, h3, h4, h5, _⟩ := hF.get hf
          have h1 : fs[f]? = some fd := by simpa using h1
          have hx := c.ev hx
          simp only [Came, execOp, ho]
          generalize a.eval x = x' at hx
          cases hx
          rename_i cs' hc
          obtain ⟨v', h6, h7⟩ := part_sound (cs' := cs'.toArray) h5 h4 (by simpa using hc) hu w
          rw [← h2] at h6
          exact ⟨v', by simp [Instr.field, run_underlying hD, h1, asAgg, h6], h7⟩
        · cases hp
      · cases hp
    · cases hp
  · cases hp

theorem pu_indexAddr (c : PC P ty θ B h.get w nt T a) {o : Oper} {t : TypeId} {x i : Operand} (ho : o.op = .indexAddr t x i) (hp : pureOp ty h nm T (.indexAddr t x i) = some (v, ob)) : Came P a o w θ nm v ob := by
  simp only [pureOp, pupick, pualloc, pubox, pubuild, pubuildSlice, puload, punilCheck, pubinOp, puunOp, puconvert, pumakeInterface, pumakeFunc, puslice, pufieldAddr, pufield, puindexAddr, puindex, pulookup, puextract, putypeAssert, pulen, pumin, pumax] at hp
  split at hp
  · rename_i ti n off len room more iv hti hx hi
    split at hp
    · rename_i e i' hk hn
      split at hp
      · rename_i te hte hlt
        simp only [Option.some.injEq, Prod.mk.injEq] at hp
        obtain ⟨rfl, rfl⟩ := hp
        obtain ⟨D, hD, hkd⟩ := (c.ty _ _ hti).und
        rw [hk] at hkd
        obtain rfl := kd_slice hkd
        obtain ⟨k, rfl⟩ := nat?_eq hn
        have hlt : i' < len := Nat.le_of_ble_eq_true hlt
        have hs := (c.ty _ _ hte).size
        have hx := c.ev hx
        have hi := c.ev hi
        simp only [Came, execOp, ho]
        generalize a.eval x = x' at hx
        generalize a.eval i = y' at hi
        cases hi
        cases hx
        case slice b _ _ _ => exact ⟨.pointer (some ⟨b, off + i' * te.size, none⟩), by simp [Instr.indexAt, asIntOf, run_underlying hD, hs, addr_add, hlt], .ptr _ _ _ (by assumption)⟩
        case sliceS b _ _ _ _ _ _ => exact ⟨.pointer (some ⟨b, off + i' * te.size, none⟩), by simp [Instr.indexAt, asIntOf, run_underlying hD, hs, addr_add, hlt], .ptr _ _ _ (by assumption)⟩
        case slice0 => omega
      · cases hp
    · cases hp
  · rename_i ti n off iv hti hx hi
    split at hp
    · rename_i len e i' hk hn
      split at hp
      · rename_i te hte hlt
        simp only [Option.some.injEq, Prod.mk.injEq] at hp
        obtain ⟨rfl, rfl⟩ := hp
        obtain ⟨D, hD, hkd⟩ := (c.ty _ _ hti).und
        rw [hk] at hkd
        obtain ⟨rfl⟩ := kd_array hkd
        obtain ⟨k, rfl⟩ := nat?_eq hn
        have hlt : i' < len := Nat.le_of_ble_eq_true hlt
        have hs := (c.ty _ _ hte).size
        have hx := c.ev hx
        have hi := c.ev hi
        simp only [Came, execOp, ho]
        generalize a.eval x = x' at hx
        generalize a.eval i = y' at hi
        cases hi
        cases hx
        rename_i b hb
        exact ⟨.pointer (some ⟨b, off + i' * te.size, none⟩), by simp [Instr.indexAt, Instr.sureAddr, asIntOf, run_underlying hD, hs, addr_add, hlt], .ptr _ _ _ hb⟩
      · cases hp
    · cases hp
  · cases hp

theorem pu_index (c : PC P ty θ B h.get w nt T a) {o : Oper} {t : TypeId} {x i : Operand} (ho : o.op = .index t x i) (hp : pureOp ty h nm T (.index t x i) = some (v, ob)) : Came P a o w θ nm v ob := by
  simp only [pureOp, pupick, pualloc, pubox, pubuild, pubuildSlice, puload, punilCheck, pubinOp, puunOp, puconvert, pumakeInterface, pumakeFunc, puslice, pufieldAddr, pufield, puindexAddr, puindex, pulookup, puextract, putypeAssert, pulen, pumin, pumax] at hp
  split at hp
  · rename_i ti s iv hti hx hi
    split at hp
    · rename_i i' hk hn
      split at hp
      · rename_i b hb
        simp only [Option.some.injEq, Prod.mk.injEq] at hp
        obtain ⟨rfl, rfl⟩ := hp
        obtain ⟨D, hD, hkd⟩ := (c.ty _ _ hti).und
        rw [hk] at hkd
        obtain rfl := kd_str hkd
        obtain ⟨k, rfl⟩ := nat?_eq hn
        have hx := c.ev hx
        have hi := c.ev hi
        simp only [Came, execOp, ho]
        generalize a.eval x = x' at hx
        generalize a.eval i = y' at hi
        cases hi
        cases hx
        rename_i s
        rw [listGet_eq, List.getElem?_map] at hb
        obtain ⟨c0, hc0, rfl⟩ := Option.map_eq_some_iff.1 hb
        have hc1 : s[i']? = some c0 := by
          have hlt : i' < s.data.toList.length := by
            rcases Nat.lt_or_ge i' s.data.toList.length with h | h
            · exact h
            · rw [List.getElem?_eq_none h] at hc0; cases hc0
          rw [List.getElem?_eq_getElem hlt] at hc0
          have hlt' : i' < s.size := by simpa using hlt
          rw [getElem?_pos s i' hlt', ← hc0, Array.getElem_toList]
          rfl
        exact ⟨_, by simp [Instr.index, asIntOf, run_underlying hD, hc1], .int _ _⟩
      · cases hp
    · cases hp
  · cases hp

theorem pu_extract (c : PC P ty θ B h.get w nt T a) {o : Oper} {x : Operand} {i : Nat} (ho : o.op = .extract x i) (hp : pureOp ty h nm T (.extract x i) = some (v, ob)) : Came P a o w θ nm v ob := by
  simp only [pureOp, pupick, pualloc, pubox, pubuild, pubuildSlice, puload, punilCheck, pubinOp, puunOp, puconvert, pumakeInterface, pumakeFunc, puslice, pufieldAddr, pufield, puindexAddr, puindex, pulookup, puextract, putypeAssert, pulen, pumin, pumax] at hp
  split at hp
  · rename_i vs hx
    split at hp
    · rename_i u hu
      simp only [Option.some.injEq, Prod.mk.injEq] at hp
      obtain ⟨rfl, rfl⟩ := hp
      have hx := c.ev hx
      simp only [Came, execOp, ho]
      generalize a.eval x = x' at hx
      cases hx
      rename_i vs' hv
      obtain ⟨v', h1, h2⟩ := hv.get hu
      exact ⟨v', by simp [Instr.extract, h1], h2⟩
    · cases hp
  · cases hp
end
end Go.Exe
