/- The executor: each operation that changes nothing. The executor: an operation that changes nothing comes to what it is said to. The executor: keys, slices, conversions, and all operations that change nothing. -/
import Derived.Test.YtjlgdeeahcfcgaaGreatDoorExeBin
import Derived.Laws.MakeOwn
set_option linter.unusedVariables false
set_option linter.unusedSimpArgs false
namespace Go.Exe
set_option linter.unusedSectionVars false
variable [Opn]
open Go.RowKit

theorem nat?_eq {v : AV} {n : Nat} (h : nat? v = some n) : ∃ k, v = .int k n := by
  cases v <;> simp only [nat?, reduceCtorEq] at h
  rename_i k m
  cases m <;> simp only [nat?, Option.some.injEq, reduceCtorEq] at h
  subst h
  exact ⟨k, rfl⟩

theorem fillS_sound {θ : Th} {nt : Nat} {T : Tr AV} {a : Act} (k : TR θ nt T a) (hg : ∀ g, g < 64 → θ.blk g = some g) (size : Nat) :
    ∀ (ps : List (Nat × Operand)) (cs r : List AV) (cs' : Array Value), VRs θ cs cs'.toList → fillS size T cs ps = some r →
      ∃ r', Instr.fill (fun i => some (i * size, size)) cs' (ps.map fun x => (x.1, a.eval x.2)) = some r' ∧ VRs θ r r'.toList
  | [], cs, r, cs', hc, h => by simp only [fillS, Option.some.injEq] at h; subst h; exact ⟨cs', rfl, hc⟩
  | (i, x) :: ps, cs, r, cs', hc, h => by
    simp only [fillS] at h
    split at h
    · rename_i v hv
      split at h
      · rename_i hl
        split at h
        · rename_i cs1 h1
          have hx := (ev_sound k hg hv).cells
          have hlen := Nat.eq_of_beq_eq_true hl
          have e1 : (a.eval x).cells.size = size := by rw [← Array.length_toList, hx.length, hlen]
          have hcl := hc.length
          simp only [Array.length_toList] at hcl
          obtain ⟨rfl, h2⟩ := lay_eq h1
          have h3 : i * size + (a.eval x).cells.size ≤ cs'.size := by omega
          obtain ⟨r', h4, h5⟩ := fillS_sound k hg size ps _ r ((a.eval x).cells.zipIdx.foldl (fun cs (y : Value × Nat) => cs.setIfInBounds (i * size + y.2) y.1) cs')
            (by rw [foldl_put _ _ _ h3]; exact hc.put hx h2) h
          refine ⟨r', ?_, h5⟩
          simp only [List.map_cons, Instr.fill]
          rw [if_neg (by simp [e1]; omega)]
          exact h4
        · cases h
      · cases h
    · cases h

theorem rep_row (z : List Value) (n : Nat) : ((Array.range (n * z.length)).map (fun i => z.toArray[i % z.length]!)).toList = (List.range n).flatMap fun _ => z := by
  induction n with
  | zero => simp
  | succ n ih =>
    rw [List.range_succ, List.flatMap_append, ← ih, Array.toList_map, Array.toList_map, Array.toList_range, Array.toList_range, Nat.succ_mul, List.range_add, List.map_append]
    congr 1
    rw [List.map_map]
    have : (List.flatMap (fun _ => z) [n]) = z := by simp
    rw [this]
    apply List.ext_getElem?
    intro j
    rw [List.getElem?_map]
    by_cases h : j < z.length
    · rw [List.getElem?_range h]
      have e : (n * z.length + j) % z.length = j := by rw [Nat.mul_comm, Nat.mul_add_mod]; exact Nat.mod_eq_of_lt h
      simp [e, h]
    · rw [List.getElem?_eq_none (by simp; omega), List.getElem?_eq_none (by omega)]; rfl

theorem repA_sound {θ : Th} {z : List AV} {z' : List Value} (h : VRs θ z z') : ∀ n, VRs θ (repA z n) ((List.range n).flatMap fun _ => z')
  | 0 => .nil
  | n + 1 => by
    rw [List.range_succ_eq_map, List.flatMap_cons, List.flatMap_map]
    exact h.append (repA_sound h n)

theorem bytes_of {θ : Th} : ∀ (cs : List AV) {cs' : List Value} {l : List Nat}, VRs θ cs cs' → bytesOf? cs = some l → cs' = l.map (fun n => Value.int .u8 (n : Nat)) ∧ ∀ n ∈ l, n ≤ 255
  | [], _, _, .nil, h => by simp only [bytesOf?, Option.some.injEq] at h; subst h; simp
  | v :: vs, _, _, .cons _ v' _ vs' hv ht, h => by
    unfold bytesOf? at h
    split at h
    · rename_i e; cases e
    · rename_i n cs e
      cases e
      cases hv
      split at h
      · rename_i l hl hb
        simp only [Option.some.injEq] at h
        subst h
        obtain ⟨h1, h2⟩ := bytes_of vs ht hl
        exact ⟨by rw [h1]; rfl, fun m hm => by rcases List.mem_cons.1 hm with rfl | hm; exact Nat.le_of_ble_eq_true hb; exact h2 m hm⟩
      · cases h
    · cases h

theorem run_bytes {P : Program} {w : World} {a : Addr} {l : List Nat} {len : Nat} (c : Nat) (h : (loadCells a len).run P w = .ok (l.map (fun n => Value.int .u8 (n : Nat))).toArray w) (hl : ∀ n ∈ l, n ≤ 255) :
    ∃ s : ByteArray, (Conv.bytesToString (.slice (some a) len c)).run P w = .ok (.string s) w ∧ s.data.toList.map UInt8.toNat = l := by
  have key : ∀ (f : Value → ByteArray → Sem (ForInStep ByteArray)), (∀ n s, f (.int .u8 n) s = pure (ForInStep.yield (s.push (UInt8.ofNat n.toNat)))) → ∀ (l : List Nat) (acc : ByteArray), (∀ n ∈ l, n ≤ 255) →
      ∃ s : ByteArray, (forIn (l.map (fun n => Value.int .u8 (n : Nat))).toArray acc f).run P w = .ok s w ∧ s.data.toList.map UInt8.toNat = acc.data.toList.map UInt8.toNat ++ l := by
    intro f hf l
    induction l with
    | nil => intro acc _; exact ⟨acc, by simp, by simp⟩
    | cons n l ih =>
      intro acc h
      obtain ⟨s, h1, h2⟩ := ih (acc.push (UInt8.ofNat n)) (fun m hm => h m (List.mem_cons_of_mem _ hm))
      refine ⟨s, ?_, ?_⟩
      · rw [← Array.forIn_toList] at h1 ⊢
        simpa [hf] using h1
      · rw [h2]
        have : n % 256 = n := Nat.mod_eq_of_lt (by have := h n (List.mem_cons_self ..); omega)
        simp [ByteArray.push, this]
  obtain ⟨s, h1, h2⟩ := key (fun c s => match c with
    | .int .u8 n => pure (ForInStep.yield (s.push (UInt8.ofNat n.toNat)))
    | _ => do
      stuck (α := PUnit) "bytesToString: byte expected"
      pure (ForInStep.yield s)) (fun n s => rfl) l .empty hl
  refine ⟨s, ?_, by rw [h2]; rfl⟩
  simp only [Conv.bytesToString, Sem.run_bind, h, Result.andThen_ok]
  refine Eq.trans (congrArg (fun r => Result.andThen r fun a w' => Sem.run P (pure (Value.string a)) w') (Eq.trans ?_ h1)) rfl
  rfl
end Go.Exe
namespace Go.Exe
set_option linter.unusedSectionVars false
variable [Opn]
open Go.RowKit

structure PC (P : Program) (ty : Tr TI) (θ : Th) (B : Nat) (h : Nat → Option AObj) (w : World) (nt : Nat) (T : Tr AV) (a : Act) : Prop where
  ty : TyOk P ty
  hr : HR θ B h w
  tr : TR θ nt T a
  glob : ∀ g, g < 64 → θ.blk g = some g

section
variable {P : Program} {ty : Tr TI} {θ : Th} {B : Nat} {h : Tr AObj} {w : World} {nt : Nat} {T : Tr AV} {a : Act} {nm : Nat} {v : AV} {ob : Option AObj}

theorem PC.ev (c : PC P ty θ B h.get w nt T a) {x : Operand} {v : AV} (h : ev T x = some v) : VR θ v (a.eval x) := ev_sound c.tr c.glob h

theorem pu_ev (c : PC P ty θ B h.get w nt T a) {o : Oper} {x : Operand} (ho : o.op = .move x ∨ o.op = .assign x) (hp : (match ev T x with | some v => some (v, none) | none => none) = some (v, ob)) : Came P a o w θ nm v ob := by
  split at hp
  · rename_i u hu
    simp only [Option.some.injEq, Prod.mk.injEq] at hp
    obtain ⟨rfl, rfl⟩ := hp
    refine ⟨_, ?_, c.ev hu⟩
    rcases ho with ho | ho <;> simp [execOp, ho]
  · cases hp

theorem pu_pick (c : PC P ty θ B h.get w nt T a) {o : Oper} {x y z : Operand} (ho : o.op = .pick x y z) (hp : pureOp ty h nm T (.pick x y z) = some (v, ob)) : Came P a o w θ nm v ob := by
  simp only [pureOp, pupick, pualloc, pubox, pubuild, pubuildSlice, puload, punilCheck, pubinOp, puunOp, puconvert, pumakeInterface, pumakeFunc, puslice, pufieldAddr, pufield, puindexAddr, puindex, pulookup, puextract, putypeAssert, pulen, pumin, pumax] at hp
  split at hp
  · rename_i hx
    have h1 := c.ev hx
    split at hp
    · rename_i u hu
      simp only [Option.some.injEq, Prod.mk.injEq] at hp
      obtain ⟨rfl, rfl⟩ := hp
      refine ⟨_, ?_, c.ev hu⟩
      simp only [execOp, ho]
      generalize a.eval x = x' at h1
      cases h1
      simp [asBool]
    · cases hp
  · rename_i hx
    have h1 := c.ev hx
    split at hp
    · rename_i u hu
      simp only [Option.some.injEq, Prod.mk.injEq] at hp
      obtain ⟨rfl, rfl⟩ := hp
      refine ⟨_, ?_, c.ev hu⟩
      simp only [execOp, ho]
      generalize a.eval x = x' at h1
      cases h1
      simp [asBool]
    · cases hp
  · cases hp

theorem OR_new {θ : Th} {cs : List AV} {cs' : Array Value} {e : TypeId} (h : VRs θ cs cs'.toList) : OR θ (.cells cs e none) (.cells cs' e) ∧ Loose (.cells cs' e) :=
  ⟨⟨rfl, cs'.toList, [], by simp, h, fun _ _ e => by cases e⟩, .inl rfl⟩

theorem pu_alloc (c : PC P ty θ B h.get w nt T a) {o : Oper} {e : TypeId} (ho : o.op = .alloc e) (hp : pureOp ty h nm T (.alloc e) = some (v, ob)) : Came P a o w θ nm v ob := by
  simp only [pureOp, pupick, pualloc, pubox, pubuild, pubuildSlice, puload, punilCheck, pubinOp, puunOp, puconvert, pumakeInterface, pumakeFunc, puslice, pufieldAddr, pufield, puindexAddr, puindex, pulookup, puextract, putypeAssert, pulen, pumin, pumax] at hp
  split at hp
  · rename_i ti hti
    simp only [Option.some.injEq, Prod.mk.injEq] at hp
    obtain ⟨rfl, rfl⟩ := hp
    obtain ⟨z, hz, hz2, _⟩ := (c.ty _ _ hti).zero
    refine ⟨.pointer (some ⟨w.heap.size, 0, none⟩), .cells z.cells e, ?_, fun θ' hl hb => ⟨.ptr _ _ _ hb, OR_new (hz2 θ')⟩⟩
    simp [execOp, ho, Instr.alloc, hz, newVar, newRow]
  · cases hp

theorem pu_box (c : PC P ty θ B h.get w nt T a) {o : Oper} {e : TypeId} {x : Operand} (ho : o.op = .box e x) (hp : pureOp ty h nm T (.box e x) = some (v, ob)) : Came P a o w θ nm v ob := by
  simp only [pureOp, pupick, pualloc, pubox, pubuild, pubuildSlice, puload, punilCheck, pubinOp, puunOp, puconvert, pumakeInterface, pumakeFunc, puslice, pufieldAddr, pufield, puindexAddr, puindex, pulookup, puextract, putypeAssert, pulen, pumin, pumax] at hp
  split at hp
  · rename_i u hu
    simp only [Option.some.injEq, Prod.mk.injEq] at hp
    obtain ⟨rfl, rfl⟩ := hp
    have h1 := (c.ev hu).cells
    refine ⟨.pointer (some ⟨w.heap.size, 0, none⟩), .cells (a.eval x).cells e, ?_, fun θ' hl hb => ⟨.ptr _ _ _ hb, OR_new (h1.mono hl)⟩⟩
    simp [execOp, ho, Instr.box, newVar, newRow]
  · cases hp

theorem places_run {fs : List Field} {fis : List FI} (hf : FsOk P fs fis) (w : World) : (fs.mapM (fun f => (do pure (f.offset, ← sizeOf f.type) : Sem (Nat × Nat)))).run P w = .ok (fis.map fun f => (f.off, f.size)) w := by
  induction hf with
  | nil => simp
  | cons f fi fs fis hf _ ih =>
    obtain ⟨h1, h2, h3, _⟩ := hf
    simp only [List.mapM_cons, Sem.run_bind, h3, Result.andThen_ok, ih, Sem.run_pure, h1, List.map_cons]

theorem listGet_eq {α : Type} : ∀ (l : List α) (i : Nat), listGet l i = l[i]?
  | [], i => by simp [listGet]
  | x :: xs, 0 => by simp [listGet]
  | x :: xs, i + 1 => by simp [listGet, listGet_eq xs i]

theorem pu_build (c : PC P ty θ B h.get w nt T a) {o : Oper} {t : TypeId} {ps : Array (Nat × Operand)} (ho : o.op = .build t ps) (hp : pureOp ty h nm T (.build t ps) = some (v, ob)) : Came P a o w θ nm v ob := by
  simp only [pureOp, pupick, pualloc, pubox, pubuild, pubuildSlice, puload, punilCheck, pubinOp, puunOp, puconvert, pumakeInterface, pumakeFunc, puslice, pufieldAddr, pufield, puindexAddr, puindex, pulookup, puextract, putypeAssert, pulen, pumin, pumax] at hp
  split at hp
  · rename_i ti hti
    split at hp
    · rename_i fis hk
      split at hp
      · rename_i cs hcs
        simp only [Option.some.injEq, Prod.mk.injEq] at hp
        obtain ⟨rfl, rfl⟩ := hp
        have ht := c.ty _ _ hti
        obtain ⟨z, hz, hz2, _⟩ := ht.zero
        obtain ⟨D, hD, hkd⟩ := ht.und
        rw [hk] at hkd
        obtain ⟨fs, rfl, hF⟩ := kd_struct hkd
        obtain ⟨r', h1, h2⟩ := fillA_sound c.tr c.glob fis ((fis.map fun f => (f.off, f.size)).toArray[·]?) (fun i f hf => by rw [listGet_eq] at hf; simp [hf]) ps.toList _ _ z.cells (hz2 θ) hcs
        refine ⟨.agg r', ?_, by have := VR.agg _ _ h2; simpa using this⟩
        have hpl := places_run hF w
        have e : (fs.mapM (fun f => (do pure (f.offset, ← sizeOf f.type) : Sem (Nat × Nat)))).run P w = .ok (fis.map fun f => (f.off, f.size)).toArray w := by
          rw [Array.mapM_eq_mapM_toList]
          simp only [Sem.run_map, hpl, Result.andThen_ok]
        simp only [execOp, ho, Instr.build, Sem.run_bind, hz, Result.andThen_ok, run_underlying hD, e]
        have e2 : (ps.map fun x => (x.1, a.eval x.2)).toList = ps.toList.map fun x => (x.1, a.eval x.2) := by simp
        rw [e2, h1]
        rfl
      · cases hp
    · cases hp
  · cases hp

theorem pu_buildSlice (c : PC P ty θ B h.get w nt T a) {o : Oper} {t : TypeId} {n : Nat} {ps : Array (Nat × Operand)} (ho : o.op = .buildSlice t n ps) (hp : pureOp ty h nm T (.buildSlice t n ps) = some (v, ob)) : Came P a o w θ nm v ob := by
  simp only [pureOp, pupick, pualloc, pubox, pubuild, pubuildSlice, puload, punilCheck, pubinOp, puunOp, puconvert, pumakeInterface, pumakeFunc, puslice, pufieldAddr, pufield, puindexAddr, puindex, pulookup, puextract, putypeAssert, pulen, pumin, pumax] at hp
  split at hp
  · rename_i ti hti
    split at hp
    · rename_i e hk
      split at hp
      · rename_i te hte
        split at hp
        · rename_i hle
          split at hp
          · rename_i cs hcs
            simp only [Option.some.injEq, Prod.mk.injEq] at hp
            obtain ⟨rfl, rfl⟩ := hp
            obtain ⟨D, hD, hkd⟩ := (c.ty _ _ hti).und
            rw [hk] at hkd
            obtain rfl := kd_slice hkd
            have hte := c.ty _ _ hte
            obtain ⟨z, hz, hz2, hz3⟩ := hte.zero
            have hle := Nat.le_of_ble_eq_true hle
            have hsz := hz3.2.2
            have e0 : ((Array.range 0).map (fun x => (#[] : Array Value)[x % (#[] : Array Value).size]!)).toList = [] := by simp
            have e2 : (ps.map fun x => (x.1, a.eval x.2)).toList = ps.toList.map fun x => (x.1, a.eval x.2) := by simp
            have h3 : ¬ (n * te.size > 2 ^ 24) := by omega
            by_cases h0 : n * te.size = 0
            · have hR : VRs θ (repA te.zero n) ((Array.range (n * te.size)).map ((#[] : Array Value)[· % (#[] : Array Value).size]!)).toList := by
                rw [h0, e0]
                rcases Nat.mul_eq_zero.1 h0 with rfl | h1
                · exact .nil
                · have : te.zero = [] := by
                    have := (hz2 θ).length
                    simp only [Array.length_toList] at this
                    exact List.eq_nil_of_length_eq_zero (by omega)
                  rw [this]
                  have : ∀ n, repA ([] : List AV) n = [] := fun n => by induction n <;> simp_all [repA]
                  rw [this]
                  exact .nil
              obtain ⟨r', h1, h2⟩ := fillS_sound c.tr c.glob te.size ps.toList _ _ _ hR hcs
              refine ⟨.slice (some ⟨w.heap.size, 0, none⟩) n n, .cells r' e, ?_, fun θ' hl hb => ⟨.slice _ _ _ _ _ _ rfl hb, OR_new (h2.mono hl)⟩⟩
              simp only [execOp, ho, Instr.buildSlice, Sem.run_bind, run_underlying hD, Result.andThen_ok, hte.size, h3, if_false, if_true, Sem.run_ite, Sem.run_pure, h0]
              rw [h0] at h1
              rw [e2, h1]
              rfl
            · have hR : VRs θ (repA te.zero n) ((Array.range (n * te.size)).map (z.cells[· % z.cells.size]!)).toList := by
                have := rep_row z.cells.toList n
                simp only [Array.length_toList, Array.toArray_toList] at this
                rw [← hsz, this]
                exact repA_sound (hz2 θ) n
              obtain ⟨r', h1, h2⟩ := fillS_sound c.tr c.glob te.size ps.toList _ _ _ hR hcs
              refine ⟨.slice (some ⟨w.heap.size, 0, none⟩) n n, .cells r' e, ?_, fun θ' hl hb => ⟨.slice _ _ _ _ _ _ rfl hb, OR_new (h2.mono hl)⟩⟩
              simp only [execOp, ho, Instr.buildSlice, Sem.run_bind, run_underlying hD, Result.andThen_ok, hte.size, h3, if_false, Sem.run_ite, Sem.run_pure, h0, hz]
              rw [e2, h1]
              rfl
          · cases hp
        · cases hp
      · cases hp
    · cases hp
  · cases hp

theorem pu_makeSlice (c : PC P ty θ B h.get w nt T a) {o : Oper} {t : TypeId} {x y : Operand} (ho : o.op = .makeSlice t x y) (hp : pureOp ty h nm T (.makeSlice t x y) = some (v, ob)) : Came P a o w θ nm v ob := by
  simp only [pureOp, pumakeSlice] at hp
  split at hp
  · rename_i ti xl xc hti hxl hxc
    split at hp
    · rename_i e l k hk hl hc
      split at hp
      · rename_i te hte
        split at hp
        · rename_i h1 h2 h3
          simp only [Option.some.injEq, Prod.mk.injEq] at hp
          obtain ⟨rfl, rfl⟩ := hp
          obtain ⟨D, hD, hkd⟩ := (c.ty _ _ hti).und
          rw [hk] at hkd
          obtain rfl := kd_slice hkd
          have hte := c.ty _ _ hte
          obtain ⟨z, hz, hz2, hz3⟩ := hte.zero
          obtain ⟨inf, hinf, hby⟩ := hte.info
          have h1 := Nat.le_of_ble_eq_true h1
          have h2 := Nat.le_of_ble_eq_true h2
          have h3 := Nat.le_of_ble_eq_true h3
          have hsz := hz3.2.2
          obtain ⟨kl, el⟩ := nat?_eq hl
          obtain ⟨kc, ec⟩ := nat?_eq hc
          subst el ec
          have hxl := c.ev hxl
          have hxc := c.ev hxc
          generalize exl : a.eval x = x' at hxl
          generalize exc : a.eval y = y' at hxc
          cases hxl
          cases hxc
          have wl : IntKind.i64.wrap (l : Int) = l := by rw [IntKind.wrap_i64]; omega
          have wc : IntKind.i64.wrap (k : Int) = k := by rw [IntKind.wrap_i64]; omega
          have n1 : ¬ ((k : Int) < 0) := by omega
          have n2 : ¬ (281474976710656 < (inf.bytes : Int) * (k : Int)) := by
            have : ((te.bytes * k : Nat) : Int) ≤ 281474976710656 := by omega
            rw [hby]
            rw [Int.natCast_mul] at this
            omega
          have n3 : ¬ ((l : Int) < 0) := by omega
          have n4 : ¬ ((k : Int) < (l : Int)) := by omega
          have hrun : (execOp a.eval o).run P w = .ok (.value (.slice (some ⟨w.heap.size, 0, none⟩) l k)) (w.alloc (.cells (madeCells z.cells (k * te.size)) e)) := by
            by_cases hn : k * te.size = 0
            · simp [execOp, ho, exl, exc, Instr.makeSlice, run_underlying hD, asInt, asIntOf, hinf, hte.size, wl, wc, n1, n2, n3, n4, hn, newRow, madeCells, Array.range_zero']
            · simp [execOp, ho, exl, exc, Instr.makeSlice, run_underlying hD, asInt, asIntOf, hinf, hte.size, hz, wl, wc, n1, n2, n3, n4, hn, newRow, madeCells]
          have hR : VRs θ (repA te.zero k) (madeCells z.cells (k * te.size)).toList := by
            have := rep_row z.cells.toList k
            simp only [Array.length_toList, Array.toArray_toList] at this
            unfold madeCells
            rw [← hsz, this]
            exact repA_sound (hz2 θ) k
          exact ⟨_, _, hrun, fun θ' hl' hb => ⟨.slice _ _ _ _ _ _ (by omega) hb, OR_new (hR.mono hl')⟩⟩
        · cases hp
      · cases hp
    · cases hp
  · cases hp

theorem pu_load (c : PC P ty θ B h.get w nt T a) {o : Oper} {t : TypeId} {x : Operand} (ho : o.op = .load t x) (hp : pureOp ty h nm T (.load t x) = some (v, ob)) : Came P a o w θ nm v ob := by
  simp only [pureOp, pupick, pualloc, pubox, pubuild, pubuildSlice, puload, punilCheck, pubinOp, puunOp, puconvert, pumakeInterface, pumakeFunc, puslice, pufieldAddr, pufield, puindexAddr, puindex, pulookup, puextract, putypeAssert, pulen, pumin, pumax] at hp
  split at hp
  · cases hp
  · rename_i ti hti
    split at hp
    · rename_i n o' hx
      split at hp
      · rename_i cs e mo hn
        split at hp
        · rename_i u hu
          simp only [Option.some.injEq, Prod.mk.injEq] at hp
          obtain ⟨rfl, rfl⟩ := hp
          have h1 := c.ev hx
          simp only [Came, execOp, ho]
          generalize a.eval x = x' at h1
          cases h1
          rename_i b hb
          obtain ⟨v', h2, h3⟩ := loadVar_sound (c.ty _ _ hti) c.hr hn hb hu
          exact ⟨v', by simp [Instr.loadAt, Instr.sureAddr, h2], h3⟩
        · cases hp
      · cases hp
    · cases hp

theorem pu_nilCheck (c : PC P ty θ B h.get w nt T a) {o : Oper} {x : Operand} (ho : o.op = .nilCheck x) (hp : pureOp ty h nm T (.nilCheck x) = some (v, ob)) : Came P a o w θ nm v ob := by
  simp only [pureOp, pupick, pualloc, pubox, pubuild, pubuildSlice, puload, punilCheck, pubinOp, puunOp, puconvert, pumakeInterface, pumakeFunc, puslice, pufieldAddr, pufield, puindexAddr, puindex, pulookup, puextract, putypeAssert, pulen, pumin, pumax] at hp
  split at hp
  · rename_i hx
    have h1 := c.ev hx
    simp only [Option.some.injEq, Prod.mk.injEq] at hp
    obtain ⟨rfl, rfl⟩ := hp
    simp only [Came, execOp, ho]
    generalize a.eval x = x' at h1
    cases h1
    exact ⟨_, rfl, .ptr _ _ _ ‹_›⟩
  · rename_i hx
    have h1 := c.ev hx
    simp only [Option.some.injEq, Prod.mk.injEq] at hp
    obtain ⟨rfl, rfl⟩ := hp
    simp only [Came, execOp, ho]
    generalize a.eval x = x' at h1
    cases h1
    exact ⟨_, rfl, .func _ _ _ _ _ ‹_› ‹_› ‹_›⟩
  · cases hp

theorem pu_binOp (c : PC P ty θ B h.get w nt T a) {o : Oper} {op : BinOp} {t t' : TypeId} {x y : Operand} (ho : o.op = .binOp op t x y t') (hp : pureOp ty h nm T (.binOp op t x y t') = some (v, ob)) : Came P a o w θ nm v ob := by
  simp only [pureOp, pupick, pualloc, pubox, pubuild, pubuildSlice, puload, punilCheck, pubinOp, puunOp, puconvert, pumakeInterface, pumakeFunc, puslice, pufieldAddr, pufield, puindexAddr, puindex, pulookup, puextract, putypeAssert, pulen, pumin, pumax] at hp
  split at hp
  · rename_i u1 u2 hx hy
    split at hp
    · rename_i u hu
      simp only [Option.some.injEq, Prod.mk.injEq] at hp
      obtain ⟨rfl, rfl⟩ := hp
      obtain ⟨v', h1, h2⟩ := binA_sound c.ty (c.ev hx) (c.ev hy) hu x y w
      refine ⟨v', ?_, h2⟩
      simp only [execOp, ho]
      simp only [Sem.run_bind] at h1 ⊢
      rw [h1]
      rfl
    · split at hp
      · rename_i u hu
        simp only [Option.some.injEq, Prod.mk.injEq] at hp
        obtain ⟨rfl, rfl⟩ := hp
        have hx := c.ev hx
        have hy := c.ev hy
        unfold nilA at hu
        split at hu
        · split at hu
          · rename_i ti hcst hti
            obtain ⟨D, hD, hK⟩ := (c.ty _ _ hti).und
            generalize hxe : a.eval x = x' at hx
            generalize hye : a.eval y = y' at hy
            cases hx
            cases hy
            have hguard : ∀ op, (eqGuard op t x y .nilIface .nilIface).run P w = .ok () w := fun op => by
              clear hxe hye
              cases x <;> cases y <;> first | (exfalso; cases hcst; done) | (cases op <;> rfl)
            split at hu
            · have hkd : ti.kd = .iface := by assumption
              rw [hkd] at hK
              obtain ⟨M, rfl⟩ := kd_iface hK
              cases hu
              refine ⟨.bool true, ?_, .bool _⟩
              have hs : sameA ty 6 t .nilIface .nilIface = some true := by simp only [sameA, hti, hkd]
              have he := sameA_sound c.ty 6 10000 t _ _ _ _ true (by decide) (VR.nilIface (θ := θ)) (VR.nilIface (θ := θ)) hs w
              simp only [execOp, ho, hxe, hye, Sem.run_bind, hguard, Result.andThen_ok]
              rw [eql_run (θ := θ) t (.nilIface) (.nilIface) rfl rfl (fun _ _ _ _ h => by cases h) (fun _ _ h => by cases h)]
              simp only [Sem.run_bind, Op.equal, Op.maxDepth, he, Result.andThen_ok]
              rfl
            · have hkd : ti.kd = .iface := by assumption
              rw [hkd] at hK
              obtain ⟨M, rfl⟩ := kd_iface hK
              cases hu
              refine ⟨.bool false, ?_, .bool _⟩
              have hs : sameA ty 6 t .nilIface .nilIface = some true := by simp only [sameA, hti, hkd]
              have he := sameA_sound c.ty 6 10000 t _ _ _ _ true (by decide) (VR.nilIface (θ := θ)) (VR.nilIface (θ := θ)) hs w
              simp only [execOp, ho, hxe, hye, Sem.run_bind, hguard, Result.andThen_ok]
              rw [neq_run (θ := θ) t (.nilIface) (.nilIface) rfl rfl (fun _ _ _ _ h => by cases h) (fun _ _ h => by cases h)]
              simp only [Sem.run_bind, Op.equal, Op.maxDepth, he, Result.andThen_ok]
              rfl
            · cases hu
          · cases hu
        · cases hu
      · split at hp
        · rename_i u hu
          simp only [Option.some.injEq, Prod.mk.injEq] at hp
          obtain ⟨rfl, rfl⟩ := hp
          obtain ⟨v', h1, h2⟩ := opnA_sound (P := P) (t := t) (c.ev hx) (c.ev hy) hu x y w
          refine ⟨v', ?_, h2⟩
          simp only [execOp, ho]
          simp only [Sem.run_bind] at h1 ⊢
          rw [h1]
          rfl
        · cases hp
  · cases hp

theorem pu_unOp (c : PC P ty θ B h.get w nt T a) {o : Oper} {op : UnOp} {t : TypeId} {x : Operand} (ho : o.op = .unOp op t x) (hp : pureOp ty h nm T (.unOp op t x) = some (v, ob)) : Came P a o w θ nm v ob := by
  simp only [pureOp, pupick, pualloc, pubox, pubuild, pubuildSlice, puload, punilCheck, pubinOp, puunOp, puconvert, pumakeInterface, pumakeFunc, puslice, pufieldAddr, pufield, puindexAddr, puindex, pulookup, puextract, putypeAssert, pulen, pumin, pumax] at hp
  split at hp
  · rename_i b hx
    have h1 := c.ev hx
    simp only [Option.some.injEq, Prod.mk.injEq] at hp
    obtain ⟨rfl, rfl⟩ := hp
    simp only [Came, execOp, ho]
    generalize a.eval x = x' at h1
    cases h1
    exact ⟨_, by simp [Op.unary], .bool _⟩
  · rename_i k n hx
    have h1 := c.ev hx
    simp only [Option.some.injEq, Prod.mk.injEq] at hp
    obtain ⟨rfl, rfl⟩ := hp
    simp only [Came, execOp, ho]
    generalize a.eval x = x' at h1
    cases h1
    exact ⟨.int k (k.wrap (0 - n)), by simp [Op.unary, Op.intArith], .int _ _⟩
  · cases hp

theorem pu_makeInterface (c : PC P ty θ B h.get w nt T a) {o : Oper} {t : TypeId} {x : Operand} (ho : o.op = .makeInterface t x) (hp : pureOp ty h nm T (.makeInterface t x) = some (v, ob)) : Came P a o w θ nm v ob := by
  simp only [pureOp, pupick, pualloc, pubox, pubuild, pubuildSlice, puload, punilCheck, pubinOp, puunOp, puconvert, pumakeInterface, pumakeFunc, puslice, pufieldAddr, pufield, puindexAddr, puindex, pulookup, puextract, putypeAssert, pulen, pumin, pumax] at hp
  split at hp
  · rename_i ti u hti hx
    obtain ⟨D, hD, hkd⟩ := (c.ty _ _ hti).und
    split at hp
    · cases hp
    · cases hp
    · rename_i h1 h2
      simp only [Option.some.injEq, Prod.mk.injEq] at hp
      obtain ⟨rfl, rfl⟩ := hp
      refine ⟨.iface t (a.eval x), ?_, .iface _ _ _ (c.ev hx)⟩
      have : ∀ m, D ≠ .interface m := fun m e => by
        subst e
        cases hk : ti.kd <;> rw [hk] at hkd <;> first | exact hkd.elim | exact h1 hk | exact h2 hk
      simp only [execOp, ho, Instr.makeInterface, Sem.run_bind, run_underlying hD, Result.andThen_ok]
      cases D <;> first | (exact (this _ rfl).elim) | rfl
  · cases hp

theorem pu_makeFunc (c : PC P ty θ B h.get w nt T a) {o : Oper} {f : Fn} {x y : Array Operand} (ho : o.op = .makeFunc f x y) (hp : pureOp ty h nm T (.makeFunc f x y) = some (v, ob)) : Came P a o w θ nm v ob := by
  simp only [pureOp, pupick, pualloc, pubox, pubuild, pubuildSlice, puload, punilCheck, pubinOp, puunOp, puconvert, pumakeInterface, pumakeFunc, puslice, pufieldAddr, pufield, puindexAddr, puindex, pulookup, puextract, putypeAssert, pulen, pumin, pumax] at hp
  split at hp
  · rename_i l1 l2 hpl h1 h2
    simp only [Option.some.injEq, Prod.mk.injEq] at hp
    obtain ⟨rfl, rfl⟩ := hp
    have e1 := evs_sound c.tr c.glob _ _ h1
    have e2 := evs_sound c.tr c.glob _ _ h2
    refine ⟨.func f (x.map a.eval) (y.map a.eval), by simp [execOp, ho, Instr.makeFunc], ?_⟩
    have := VR.func f _ _ _ _ hpl e1 e2
    have e3 : ∀ z : Array Operand, (z.toList.map a.eval).toArray = z.map a.eval := fun z => by apply Array.ext'; simp
    rw [e3, e3] at this
    exact this
  · cases hp

theorem pu_makeMap (_c : PC P ty θ B h.get w nt T a) {o : Oper} {t : TypeId} {r : Option Operand} (ho : o.op = .makeMap t r) (hp : pureOp ty h nm T (.makeMap t r) = some (v, ob)) : Came P a o w θ nm v ob := by
  cases r with
  | some r => simp [pureOp, pupick, pualloc, pubox, pubuild, pubuildSlice, puload, punilCheck, pubinOp, puunOp, puconvert, pumakeInterface, pumakeFunc, puslice, pufieldAddr, pufield, puindexAddr, puindex, pulookup, puextract, putypeAssert, pulen, pumin, pumax] at hp
  | none =>
    simp only [pureOp, pupick, pualloc, pubox, pubuild, pubuildSlice, puload, punilCheck, pubinOp, puunOp, puconvert, pumakeInterface, pumakeFunc, puslice, pufieldAddr, pufield, puindexAddr, puindex, pulookup, puextract, putypeAssert, pulen, pumin, pumax, Option.some.injEq, Prod.mk.injEq] at hp
    obtain ⟨rfl, rfl⟩ := hp
    refine ⟨.map (some w.heap.size), .map #[] 0, by simp [execOp, ho, Instr.makeMap], fun θ' _ hb => ⟨.map _ _ hb, ⟨rfl, .nil⟩, trivial⟩⟩

theorem pu_fieldAddr (c : PC P ty θ B h.get w nt T a) {o : Oper} {t : TypeId} {x : Operand} {f : Nat} (ho : o.op = .fieldAddr t x f) (hp : pureOp ty h nm T (.fieldAddr t x f) = some (v, ob)) : Came P a o w θ nm v ob := by
  simp only [pureOp, pupick, pualloc, pubox, pubuild, pubuildSlice, puload, punilCheck, pubinOp, puunOp, puconvert, pumakeInterface, pumakeFunc, puslice, pufieldAddr, pufield, puindexAddr, puindex, pulookup, puextract, putypeAssert, pulen, pumin, pumax] at hp
  split at hp
  · rename_i ti n off hti hx
    split at hp
    · rename_i fis hk
      split at hp
      · rename_i fi hf
        split at hp
        · cases hp
        · rename_i sz hsz
          simp only [Option.some.injEq, Prod.mk.injEq] at hp
          obtain ⟨rfl, rfl⟩ := hp
          obtain ⟨D, hD, hkd⟩ := (c.ty _ _ hti).und
          rw [hk] at hkd
          obtain ⟨fs, rfl, hF⟩ := kd_struct hkd
          obtain ⟨fd, h1, h2, h3, h4, _⟩ := hF.get hf
          have h1 : fs[f]? = some fd := by simpa using h1
          have hx := c.ev hx
          simp only [Came, execOp, ho]
          generalize a.eval x = x' at hx
          cases hx
          rename_i b hb
          refine ⟨_, ?_, .ptr _ _ _ hb⟩
          simp [Instr.fieldAt, run_underlying hD, h1, Instr.sureAddr, fieldPlace, h4, hsz, addr_add, h2]
      · cases hp
    · cases hp
  · cases hp

theorem pu_field (c : PC P ty θ B h.get w nt T a) {o : Oper} {t : TypeId} {x : Operand} {f : Nat} (ho : o.op = .field t x f) (hp : pureOp ty h nm T (.field t x f) = some (v, ob)) : Came P a o w θ nm v ob := by
  simp only [pureOp, pupick, pualloc, pubox, pubuild, pubuildSlice, puload, punilCheck, pubinOp, puunOp, puconvert, pumakeInterface, pumakeFunc, puslice, pufieldAddr, pufield, puindexAddr, puindex, pulookup, puextract, putypeAssert, pulen, pumin, pumax] at hp
  split at hp
  · rename_i ti cs hti hx
    split at hp
    · rename_i fis hk
      split at hp
      · rename_i fi hf
        split at hp
        · rename_i u hu
          simp only [Option.some.injEq, Prod.mk.injEq] at hp
          obtain ⟨rfl, rfl⟩ := hp
          obtain ⟨D, hD, hkd⟩ := (c.ty _ _ hti).und
          rw [hk] at hkd
          obtain ⟨fs, rfl, hF⟩ := kd_struct hkd
          obtain ⟨fd, h1, h2, h3, h4, h5, _⟩ := hF.get hf
          have h1 : fs[f]? = some fd := by simpa using h1
          have hx := c.ev hx
          simp only [Came, execOp, ho]
          generalize a.eval x = x' at hx
          cases hx
          rename_i cs' hc
          obtain ⟨v', h6, h7⟩ := part_sound (cs' := cs'.toArray) h5 h4 (by simpa using hc) hu w
          rw [← h2] at h6
          exact ⟨v', by simp [Instr.field, run_underlying hD, h1, asAgg, h6], h7⟩
        · cases hp
      · cases hp
    · cases hp
  · cases hp

theorem pu_indexAddr (c : PC P ty θ B h.get w nt T a) {o : Oper} {t : TypeId} {x i : Operand} (ho : o.op = .indexAddr t x i) (hp : pureOp ty h nm T (.indexAddr t x i) = some (v, ob)) : Came P a o w θ nm v ob := by
  simp only [pureOp, pupick, pualloc, pubox, pubuild, pubuildSlice, puload, punilCheck, pubinOp, puunOp, puconvert, pumakeInterface, pumakeFunc, puslice, pufieldAddr, pufield, puindexAddr, puindex, pulookup, puextract, putypeAssert, pulen, pumin, pumax] at hp
  split at hp
  · rename_i ti n off len room more iv hti hx hi
    split at hp
    · rename_i e i' hk hn
      split at hp
      · rename_i te hte hlt
        simp only [Option.some.injEq, Prod.mk.injEq] at hp
        obtain ⟨rfl, rfl⟩ := hp
        obtain ⟨D, hD, hkd⟩ := (c.ty _ _ hti).und
        rw [hk] at hkd
        obtain rfl := kd_slice hkd
        obtain ⟨k, rfl⟩ := nat?_eq hn
        have hlt : i' < len := Nat.le_of_ble_eq_true hlt
        have hs := (c.ty _ _ hte).size
        have hx := c.ev hx
        have hi := c.ev hi
        simp only [Came, execOp, ho]
        generalize a.eval x = x' at hx
        generalize a.eval i = y' at hi
        cases hi
        cases hx
        case slice b _ _ _ => exact ⟨.pointer (some ⟨b, off + i' * te.size, none⟩), by simp [Instr.indexAt, asIntOf, run_underlying hD, hs, addr_add, hlt], .ptr _ _ _ (by assumption)⟩
        case sliceS b _ _ _ _ _ _ => exact ⟨.pointer (some ⟨b, off + i' * te.size, none⟩), by simp [Instr.indexAt, asIntOf, run_underlying hD, hs, addr_add, hlt], .ptr _ _ _ (by assumption)⟩
        case slice0 => omega
      · cases hp
    · cases hp
  · rename_i ti n off iv hti hx hi
    split at hp
    · rename_i len e i' hk hn
      split at hp
      · rename_i te hte hlt
        simp only [Option.some.injEq, Prod.mk.injEq] at hp
        obtain ⟨rfl, rfl⟩ := hp
        obtain ⟨D, hD, hkd⟩ := (c.ty _ _ hti).und
        rw [hk] at hkd
        obtain ⟨rfl⟩ := kd_array hkd
        obtain ⟨k, rfl⟩ := nat?_eq hn
        have hlt : i' < len := Nat.le_of_ble_eq_true hlt
        have hs := (c.ty _ _ hte).size
        have hx := c.ev hx
        have hi := c.ev hi
        simp only [Came, execOp, ho]
        generalize a.eval x = x' at hx
        generalize a.eval i = y' at hi
        cases hi
        cases hx
        rename_i b hb
        exact ⟨.pointer (some ⟨b, off + i' * te.size, none⟩), by simp [Instr.indexAt, Instr.sureAddr, asIntOf, run_underlying hD, hs, addr_add, hlt], .ptr _ _ _ hb⟩
      · cases hp
    · cases hp
  · cases hp

theorem pu_index (c : PC P ty θ B h.get w nt T a) {o : Oper} {t : TypeId} {x i : Operand} (ho : o.op = .index t x i) (hp : pureOp ty h nm T (.index t x i) = some (v, ob)) : Came P a o w θ nm v ob := by
  simp only [pureOp, pupick, pualloc, pubox, pubuild, pubuildSlice, puload, punilCheck, pubinOp, puunOp, puconvert, pumakeInterface, pumakeFunc, puslice, pufieldAddr, pufield, puindexAddr, puindex, pulookup, puextract, putypeAssert, pulen, pumin, pumax] at hp
  split at hp
  · rename_i ti s iv hti hx hi
    split at hp
    · rename_i i' hk hn
      split at hp
      · rename_i b hb
        simp only [Option.some.injEq, Prod.mk.injEq] at hp
        obtain ⟨rfl, rfl⟩ := hp
        obtain ⟨D, hD, hkd⟩ := (c.ty _ _ hti).und
        rw [hk] at hkd
        obtain rfl := kd_str hkd
        obtain ⟨k, rfl⟩ := nat?_eq hn
        have hx := c.ev hx
        have hi := c.ev hi
        simp only [Came, execOp, ho]
        generalize a.eval x = x' at hx
        generalize a.eval i = y' at hi
        cases hi
        cases hx
        rename_i s
        rw [listGet_eq, List.getElem?_map] at hb
        obtain ⟨c0, hc0, rfl⟩ := Option.map_eq_some_iff.1 hb
        have hc1 : s[i']? = some c0 := by
          have hlt : i' < s.data.toList.length := by
            rcases Nat.lt_or_ge i' s.data.toList.length with h | h
            · exact h
            · rw [List.getElem?_eq_none h] at hc0; cases hc0
          rw [List.getElem?_eq_getElem hlt] at hc0
          have hlt' : i' < s.size := by simpa using hlt
          rw [getElem?_pos s i' hlt', ← hc0, Array.getElem_toList]
          rfl
        exact ⟨_, by simp [Instr.index, asIntOf, run_underlying hD, hc1], .int _ _⟩
      · cases hp
    · cases hp
  · cases hp

theorem pu_extract (c : PC P ty θ B h.get w nt T a) {o : Oper} {x : Operand} {i : Nat} (ho : o.op = .extract x i) (hp : pureOp ty h nm T (.extract x i) = some (v, ob)) : Came P a o w θ nm v ob := by
  simp only [pureOp, pupick, pualloc, pubox, pubuild, pubuildSlice, puload, punilCheck, pubinOp, puunOp, puconvert, pumakeInterface, pumakeFunc, puslice, pufieldAddr, pufield, puindexAddr, puindex, pulookup, puextract, putypeAssert, pulen, pumin, pumax] at hp
  split at hp
  · rename_i vs hx
    split at hp
    · rename_i u hu
      simp only [Option.some.injEq, Prod.mk.injEq] at hp
      obtain ⟨rfl, rfl⟩ := hp
      have hx := c.ev hx
      simp only [Came, execOp, ho]
      generalize a.eval x = x' at hx
      cases hx
      rename_i vs' hv
      obtain ⟨v', h1, h2⟩ := hv.get hu
      exact ⟨v', by simp [Instr.extract, h1], h2⟩
    · cases hp
  · cases hp
end
end Go.Exe
namespace Go.Exe
set_option linter.unusedSectionVars false
variable [Opn]
open Go.RowKit

/-- What was found under a key. -/
inductive FR (θ : Th) : Option (Nat × AV) → Option (Nat × Value) → Prop where
  | none : FR θ none none
  | some (i : Nat) (v : AV) (v' : Value) : VR θ v v' → FR θ (some (i, v)) (some (i, v'))

theorem sameNow_sound {P : Program} {ty : Tr TI} (hty : TyOk P ty) {θ : Th} {d : Nat} (hd : d ≤ 10000) {kt : TypeId} {D : TypeDesc} (hD : P.underlying kt = some D) {x y : AV} {x' y' : Value} {b c : Bool} (hx : VR θ x x') (hy : VR θ y y')
    (h : Instr.sameNow D x' y' = some b) (hs : sameA ty d kt x y = some c) : b = c := by
  obtain ⟨m, hm⟩ : ∃ m, 10000 = m + 1 := ⟨9999, rfl⟩
  have h1 := sameA_sound hty d (m + 1) kt x y x' y' c (by omega) hx hy hs default
  have hR := run_underlying (P := P) hD
  unfold Instr.sameNow at h
  split at h
  · split at h
    · rename_i e
      subst e
      simp only [Option.some.injEq] at h
      simp only [Op.equalIn, Sem.run_bind, hR, Result.andThen_ok] at h1
      simp at h1
      rw [← h, h1]
    · cases h
  · simp only [Option.some.injEq] at h
    simp only [Op.equalIn, Sem.run_bind, hR, Result.andThen_ok] at h1
    simp at h1
    rw [← h, h1]
  · simp only [Option.some.injEq] at h
    simp only [Op.equalIn, Sem.run_bind, hR, Result.andThen_ok] at h1
    simp at h1
    rw [← h, h1]
  · cases h

theorem findNow_sound {P : Program} {ty : Tr TI} (hty : TyOk P ty) {θ : Th} {kt : TypeId} {D : TypeDesc} (hD : P.underlying kt = some D) {k : AV} {k' : Value} (hk : VR θ k k') :
    ∀ (es : List (AV × AV × Nat)) (es' : List MapEntry) (i : Nat) (r : Option (Nat × AV)) (r' : Option (Nat × Value)), ERs θ es es' → keyIn ty kt k es i = some r → Instr.findNow D k' es' i = some r' → FR θ r r' := by
  intro es
  induction es with
  | nil =>
    intro es' i r r' he h h'
    cases he
    simp only [keyIn, Option.some.injEq] at h
    simp only [Instr.findNow, Option.some.injEq] at h'
    subst h; subst h'
    exact .none
  | cons e es ih =>
    intro es' i r r' he h h'
    cases he
    rename_i k1 v1 n1 k1' v1' es1' h1 h2 h3
    simp only [keyIn] at h
    simp only [Instr.findNow] at h'
    split at h'
    · rename_i hb
      split at h
      · simp only [Option.some.injEq] at h h'
        subst h; subst h'
        exact .some _ _ _ h2
      · rename_i hc
        have := sameNow_sound hty (by decide) hD hk h1 hb hc
        cases this
      · cases h
    · rename_i hb
      split at h
      · rename_i hc
        have := sameNow_sound hty (by decide) hD hk h1 hb hc
        cases this
      · exact ih _ _ _ _ h3 h h'
      · cases h
    · cases h'

theorem findAsk_sound {P : Program} {ty : Tr TI} (hty : TyOk P ty) {θ : Th} {kt : TypeId} {k : AV} {k' : Value} (hk : VR θ k k') (w : World) :
    ∀ (es : List (AV × AV × Nat)) (es' : List MapEntry) (i : Nat) (r : Option (Nat × AV)), ERs θ es es' → keyIn ty kt k es i = some r → ∃ r', (Instr.findAsking kt k' es' i).run P w = .ok r' w ∧ FR θ r r' := by
  intro es
  induction es with
  | nil =>
    intro es' i r he h
    cases he
    simp only [keyIn, Option.some.injEq] at h
    subst h
    exact ⟨none, by simp [Instr.findAsking], .none⟩
  | cons e es ih =>
    intro es' i r he h
    cases he
    rename_i k1 v1 n1 k1' v1' es1' h1 h2 h3
    simp only [keyIn] at h
    split at h
    · rename_i hc
      have := sameA_sound hty 6 Op.maxDepth kt k k1 k' k1' true (by decide) hk h1 hc w
      simp only [Option.some.injEq] at h
      subst h
      exact ⟨some (i, v1'), by simp [Instr.findAsking, Op.equal, this], .some _ _ _ h2⟩
    · rename_i hc
      have := sameA_sound hty 6 Op.maxDepth kt k k1 k' k1' false (by decide) hk h1 hc w
      obtain ⟨r', h4, h5⟩ := ih _ _ _ h3 h
      exact ⟨r', by simp [Instr.findAsking, Op.equal, this, h4], h5⟩
    · cases h

theorem findKey_sound {P : Program} {ty : Tr TI} (hty : TyOk P ty) {θ : Th} {kt : TypeId} {D : TypeDesc} (hD : P.underlying kt = some D) {k : AV} {k' : Value} (hk : VR θ k k') (w : World) {es : List (AV × AV × Nat)} {es' : List MapEntry} {r : Option (Nat × AV)}
    (he : ERs θ es es') (h : keyIn ty kt k es 0 = some r) : ∃ r', (Instr.findKey kt k' es').run P w = .ok r' w ∧ FR θ r r' := by
  simp only [Instr.findKey, Sem.run_bind, run_underlying hD, Result.andThen_ok]
  cases hf : Instr.findNow D k' es' 0 with
  | some r' => exact ⟨r', by simp, findNow_sound hty hD hk es es' 0 r r' he h hf⟩
  | none => simpa using findAsk_sound hty hk w es es' 0 r he h

theorem checkFs_sound {P : Program} {θ : Th} {xs : List AV} {xs' : Array Value} (hx : VRs θ xs xs'.toList) (r : TypeId → AV → Bool) (e : Bool) (m : Nat)
    (ih : ∀ (t : TypeId) (x : AV) (x' : Value), VR θ x x' → r t x = true → ∀ w, (Instr.checkKey e m t x').run P w = .ok () w) :
    ∀ (fs : List Field) (fis : List FI), FsOk P fs fis → plainFs r xs fis = true → ∀ w,
      (forIn fs PUnit.unit (fun f (_ : PUnit) => (if f.name ≠ "_" then (do Instr.checkKey e m f.type (← part f.type xs' f.offset); pure (ForInStep.yield PUnit.unit)) else pure (ForInStep.yield PUnit.unit) : Sem (ForInStep PUnit)))).run P w = .ok PUnit.unit w := by
  intro fs fis hf
  induction hf with
  | nil => intro h w; rfl
  | cons f fi fs fis hf _ ih2 =>
    intro h w
    obtain ⟨h1, h2, h3, h4, h5⟩ := hf
    simp only [plainFs] at h
    rw [List.forIn_cons]
    split at h
    · rename_i hc
      rw [hc] at h5
      have : f.name = "_" := by simpa using h5
      simp only [this, ne_eq, not_true_eq_false, if_false, Sem.run_bind, Sem.run_pure, Result.andThen_ok]
      exact ih2 h w
    · rename_i hc
      rw [hc] at h5
      have hn : ¬ f.name = "_" := by simpa using h5
      split at h
      · rename_i u hu
        split at h
        · rename_i hr
          rw [← h2] at hr
          obtain ⟨u', hu1, hu2⟩ := part_sound h4 h3 hx hu w
          rw [← h1] at hu1
          have := ih _ _ _ hu2 hr w
          simp only [hn, ne_eq, not_false_eq_true, if_true, Sem.run_bind, hu1, Result.andThen_ok, this, Sem.run_pure]
          exact ih2 h w
        · cases h
      · cases h

theorem checkKey_sound {P : Program} {ty : Tr TI} (hty : TyOk P ty) {θ : Th} : ∀ (d m : Nat) (t : TypeId) (x : AV) (x' : Value) (e : Bool), d ≤ m → VR θ x x' → plainKey ty d t x = true → ∀ w, (Instr.checkKey e m t x').run P w = .ok () w := by
  intro d
  induction d with
  | zero => intro m t x x' e _ _ h; simp [plainKey] at h
  | succ d ih =>
    intro m t x x' e hm hx h w
    obtain ⟨m, rfl⟩ : ∃ k, m = k + 1 := ⟨m - 1, by omega⟩
    simp only [plainKey] at h
    split at h
    · cases h
    · rename_i ti hti
      obtain ⟨D, hD, hk⟩ := (hty t ti hti).und
      have hR := run_underlying (P := P) hD
      split at h
      · rename_i hkd; rw [hkd] at hk; obtain rfl := kd_int hk; simp [Instr.checkKey, hR]
      · rename_i hkd; rw [hkd] at hk; obtain rfl := kd_str hk; simp [Instr.checkKey, hR]
      · rename_i hkd; rw [hkd] at hk; obtain rfl := kd_bool hk; simp [Instr.checkKey, hR]
      · rename_i fs xs hkd
        rw [hkd] at hk
        obtain ⟨F, rfl, hF⟩ := kd_struct hk
        cases hx
        rename_i c1 hx
        have := checkFs_sound (P := P) (xs' := c1.toArray) (by simpa using hx) (plainKey ty d) e m (fun t x x' h1 h2 w => ih m t x x' e (by omega) h1 h2 w) _ _ hF h w
        simp only [Instr.checkKey, Sem.run_bind, hR, Result.andThen_ok]
        rw [← Array.forIn_toList]
        exact (congrArg (fun r => Result.andThen r fun (_ : PUnit) w' => Sem.run P (pure ()) w') this).trans rfl
      · cases h

section
variable {P : Program} {ty : Tr TI} {θ : Th} {B : Nat} {h : Tr AObj} {w : World} {nt : Nat} {T : Tr AV} {a : Act} {nm : Nat} {v : AV} {ob : Option AObj}

/-- hits, of keys and values alone -/
def hitsP (ty : Tr TI) (kt : TypeId) (k : AV) : List (AV × AV) → Option (List AV)
  | [] => some []
  | (k', v) :: es => match sameA ty 6 kt k k', hitsP ty kt k es with
    | some true, some l => some (v :: l)
    | some false, some l => some l
    | _, _ => none
theorem hits_P {ty : Tr TI} {kt : TypeId} {k : AV} : ∀ es : List (AV × AV × Nat), hits ty kt k es = hitsP ty kt k (es.map fun e => (e.1, e.2.1))
  | [] => rfl
  | (k', v, n) :: es => by
    simp only [hits, List.map_cons, hitsP, hits_P es]
    rfl
theorem hitsP_perm {ty : Tr TI} {kt : TypeId} {k : AV} {a b : List (AV × AV)} (h : a.Perm b) : ∀ {l}, hitsP ty kt k a = some l → ∃ m, hitsP ty kt k b = some m ∧ l.Perm m := by
  induction h with
  | nil => intro l hl; exact ⟨l, hl, List.Perm.refl _⟩
  | cons x _ ih =>
    intro l hl
    obtain ⟨k', v⟩ := x
    simp only [hitsP] at hl ⊢
    split at hl
    · rename_i l1 h1 h2
      cases hl
      obtain ⟨m, hm, hp⟩ := ih h2
      exact ⟨v :: m, by rw [h1, hm], hp.cons v⟩
    · rename_i l1 h1 h2
      cases hl
      obtain ⟨m, hm, hp⟩ := ih h2
      exact ⟨m, by rw [h1, hm], hp⟩
    · cases hl
  | swap x y r =>
    intro l hl
    obtain ⟨k1, v1⟩ := x
    obtain ⟨k2, v2⟩ := y
    simp only [hitsP] at hl ⊢
    generalize sameA ty 6 kt k k1 = s1 at *
    generalize sameA ty 6 kt k k2 = s2 at *
    generalize hitsP ty kt k r = r' at *
    rcases s1 with _ | (_ | _) <;> rcases s2 with _ | (_ | _) <;> rcases r' with _ | r' <;> dsimp only at hl <;> first
      | (exfalso; cases hl; done)
      | (cases hl; exact ⟨_, rfl, List.Perm.refl _⟩)
      | (cases hl; exact ⟨_, rfl, List.Perm.swap _ _ _⟩)
  | trans _ _ ih1 ih2 =>
    intro l hl
    obtain ⟨m, hm, hp⟩ := ih1 hl
    obtain ⟨m2, hm2, hp2⟩ := ih2 hm
    exact ⟨m2, hm2, hp.trans hp2⟩
theorem hits_keyIn {ty : Tr TI} {kt : TypeId} {k : AV} : ∀ (es : List (AV × AV × Nat)) (l : List AV) (v : AV) (j : Nat), hits ty kt k es = some (v :: l) → ∃ i, keyIn ty kt k es j = some (some (i, v))
  | [], _, _, _, h => by simp [hits] at h
  | (k', u, n) :: es, l, v, j, h => by
    simp only [hits] at h
    simp only [keyIn]
    split at h
    · rename_i l1 h1 h2
      simp only [Option.some.injEq, List.cons.injEq] at h
      rw [h1]
      exact ⟨j, by rw [h.1]⟩
    · rename_i l1 h1 h2
      simp only [Option.some.injEq] at h
      subst h
      rw [h1]
      exact hits_keyIn es l v (j + 1) h2
    · cases h
theorem like_key {ty : Tr TI} {kt : TypeId} {k v : AV} {es es2 : List (AV × AV × Nat)} (h : Like es es2) (hh : hits ty kt k es = some [v]) : ∃ i, keyIn ty kt k es2 0 = some (some (i, v)) := by
  rw [hits_P] at hh
  obtain ⟨m, hm, hp⟩ := hitsP_perm h hh
  obtain rfl := List.perm_singleton.1 hp.symm
  rw [← hits_P] at hm
  exact hits_keyIn es2 [] v 0 hm
theorem HR.look {θ : Th} {B : Nat} {h : Nat → Option AObj} {w : World} (k : HR θ B h w) {n b : Nat} {es : List (AV × AV × Nat)} (hn : h n = some (.look es)) (hb : θ.blk n = some b) :
    ∃ es2 es' cl, w.heap[b]? = some (.map es' cl) ∧ Like es es2 ∧ ERs θ es2 es'.toList := by
  obtain ⟨b', ob, h1, h2, h3, h4⟩ := k.obj n _ hn
  rw [hb] at h1
  cases h1
  cases ob <;> simp only [OR] at h3
  obtain ⟨es2, h5, h6⟩ := h3
  exact ⟨es2, _, _, h2, h5, h6⟩

theorem HR.map {θ : Th} {B : Nat} {h : Nat → Option AObj} {w : World} (k : HR θ B h w) {n b : Nat} {es : List (AV × AV × Nat)} {cl : Nat} (hn : h n = some (.map es cl)) (hb : θ.blk n = some b) :
    ∃ es', w.heap[b]? = some (.map es' cl) ∧ ERs θ es es'.toList := by
  obtain ⟨b', ob, h1, h2, h3, h4⟩ := k.obj n _ hn
  rw [hb] at h1
  cases h1
  cases ob <;> simp only [OR] at h3
  obtain ⟨rfl, h5⟩ := h3
  exact ⟨_, h2, h5⟩

theorem run_getObj_map {P : Program} {w : World} {b : Nat} {es : Array MapEntry} {cl : Nat} (h : w.heap[b]? = some (.map es cl)) : (getObj b).run P w = .ok (.map es cl) w := by
  simp [getObj, Sem.run, h]

theorem zeroOf_sound {t : TypeId} {ti : TI} (ht : TIok P t ti) (θ : Th) {z : AV} (h : zeroOf ti = some z) : ∃ z', (∀ w, (zeroValue t).run P w = .ok z' w) ∧ VR θ z z' := by
  obtain ⟨z', h1, h2, h3, h4, h5⟩ := ht.zero
  refine ⟨z', h1, ?_⟩
  unfold zeroOf at h
  split at h
  · rename_i hk
    simp only [Option.some.injEq] at h
    subst h
    obtain ⟨cs, rfl⟩ := h3 hk
    have := VR.agg _ _ (h2 θ)
    simpa [Value.cells] using this
  · rename_i hk
    have hz := h2 θ
    rw [h4 hk] at hz
    obtain ⟨v', h6, h7⟩ := hz.get h
    cases i0 : (0 : Nat) with
    | zero =>
      simp at h6
      rw [h6]
      exact h7
    | succ n => cases i0

theorem mapOf_sound {m : AV} {m' : Value} {es : List (AV × AV × Nat)} (hr : HR θ B h.get w) (hm : VR θ m m') (hes : mapOf h m = some es) :
    (∃ b es' cl, m' = .map (some b) ∧ (getObj b).run P w = .ok (.map es' cl) w ∧ ERs θ es es'.toList) ∨ (m' = .map none ∧ es = []) := by
  cases hm <;> simp only [mapOf, reduceCtorEq] at hes
  · simp only [Option.some.injEq] at hes; exact .inr ⟨rfl, hes.symm⟩
  · rename_i n b hb
    split at hes
    · rename_i es0 cl hn
      simp only [Option.some.injEq] at hes
      subst hes
      obtain ⟨es', h1, h2⟩ := hr.map hn hb
      exact .inl ⟨b, es', cl, rfl, run_getObj_map h1, h2⟩
    · cases hes

theorem okA_sound {ok : Bool} {v : AV} {v' : Value} (b : Bool) (h : VR θ v v') : VR θ (okA ok v b) (if ok then .tuple #[v', .bool b] else v') := by
  cases ok
  · exact h
  · exact VR.tuple _ [v', .bool b] (.cons _ _ _ _ h (.cons _ _ _ _ (.bool _) .nil))

theorem pu_lookup (c : PC P ty θ B h.get w nt T a) {o : Oper} {t : TypeId} {x i : Operand} {ok : Bool} (ho : o.op = .lookup t x i ok) (hp : pureOp ty h nm T (.lookup t x i ok) = some (v, ob)) : Came P a o w θ nm v ob := by
  simp only [pureOp, pupick, pualloc, pubox, pubuild, pubuildSlice, puload, punilCheck, pubinOp, puunOp, puconvert, pumakeInterface, pumakeFunc, puslice, pufieldAddr, pufield, puindexAddr, puindex, pulookup, puextract, putypeAssert, pulen, pumin, pumax] at hp
  split at hp
  · rename_i ti m k hti hm hk
    split at hp
    · rename_i kt e hkd
      split at hp
      · rename_i te es hpk hte hes
        obtain ⟨D, hD, hK⟩ := (c.ty _ _ hti).und
        rw [hkd] at hK
        obtain rfl := kd_map hK
        have hm := c.ev hm
        have hk := c.ev hk
        have hck := fun e => checkKey_sound c.ty 4 10000 kt k (a.eval i) e (by decide) hk hpk w
        have hK2 : ∃ D, P.underlying kt = some D := by
          simp only [plainKey] at hpk
          split at hpk
          · cases hpk
          · rename_i tk htk
            obtain ⟨D, h1, _⟩ := (c.ty _ _ htk).und
            exact ⟨D, h1⟩
        obtain ⟨KD, hKD⟩ := hK2
        have hfind : ∀ (m' : Value) (es' : Array MapEntry), a.eval x = m' → (∀ K : Array MapEntry → Sem Value, ((match m' with
              | .map none => K #[]
              | .map (some r) => do
                let .map es _ ← getObj r | stuck "Lookup: map expected"
                K es
              | _ => stuck "Lookup: map expected") : Sem Value).run P w = (K es').run P w) → ERs θ es es'.toList → Came P a o w θ nm v ob := by
          intro m' es' hm' hK' he
          have hrun : (execOp a.eval o).run P w = Result.andThen (Sem.run P ((do
              Instr.checkKey es'.isEmpty 10000 kt (a.eval i)
              match ← Instr.findKey kt (a.eval i) es'.toList with
              | some (_, v) => pure (if ok then Value.tuple #[v, .bool true] else v)
              | none => do
                let z ← zeroValue e
                pure (if ok then Value.tuple #[z, .bool false] else z)) : Sem Value) w) (fun v w' => .ok (.value v) w') := by
            simp only [execOp, ho, Instr.lookup, hm', Sem.run_bind, run_underlying hD, Result.andThen_ok]
            have := hK' (fun es => do
              Instr.checkKey es.isEmpty 10000 kt (a.eval i)
              match ← Instr.findKey kt (a.eval i) es.toList with
              | some (_, v) => pure (if ok then Value.tuple #[v, .bool true] else v)
              | none => do
                let z ← zeroValue e
                pure (if ok then Value.tuple #[z, .bool false] else z))
            simp only [Sem.run_bind] at this
            refine congrArg (fun r => Result.andThen r _) ?_
            refine Eq.trans ?_ this
            cases m' <;> rfl
          simp only [Sem.run_bind, hck, Result.andThen_ok] at hrun
          split at hp
          · rename_i j u hr
            simp only [Option.some.injEq, Prod.mk.injEq] at hp
            obtain ⟨rfl, rfl⟩ := hp
            obtain ⟨r', h1, h2⟩ := findKey_sound c.ty hKD hk w he hr
            cases h2
            rename_i u' hu
            refine ⟨_, ?_, okA_sound true hu⟩
            rw [hrun, h1]
            rfl
          · rename_i hr
            split at hp
            · rename_i z hz
              simp only [Option.some.injEq, Prod.mk.injEq] at hp
              obtain ⟨rfl, rfl⟩ := hp
              obtain ⟨r', h1, h2⟩ := findKey_sound c.ty hKD hk w he hr
              cases h2
              obtain ⟨z', h3, h4⟩ := zeroOf_sound (c.ty _ _ hte) θ hz
              refine ⟨_, ?_, okA_sound false h4⟩
              rw [hrun, h1]
              simp only [Result.andThen_ok, Sem.run_bind, h3]
              rfl
            · cases hp
          · cases hp
        rcases mapOf_sound (P := P) c.hr hm hes with ⟨b, es', cl, h1, h2, h3⟩ | ⟨h1, rfl⟩
        · exact hfind _ es' h1 (fun K => by simp [h2]) h3
        · exact hfind _ #[] h1 (fun K => rfl) .nil
      · rename_i te hpk hte hes
        split at hp
        · rename_i es hlo
          split at hp
          · rename_i u hh
            simp only [Option.some.injEq, Prod.mk.injEq] at hp
            obtain ⟨rfl, rfl⟩ := hp
            obtain ⟨D, hD, hK⟩ := (c.ty _ _ hti).und
            rw [hkd] at hK
            obtain rfl := kd_map hK
            have hm := c.ev hm
            have hk := c.ev hk
            have hck := fun e => checkKey_sound c.ty 4 10000 kt k (a.eval i) e (by decide) hk hpk w
            have hK2 : ∃ D, P.underlying kt = some D := by
              simp only [plainKey] at hpk
              split at hpk
              · cases hpk
              · rename_i tk htk
                obtain ⟨D, h1, _⟩ := (c.ty _ _ htk).und
                exact ⟨D, h1⟩
            obtain ⟨KD, hKD⟩ := hK2
            cases hmm : m with
            | map r =>
              cases r with
              | none => rw [hmm] at hlo; cases hlo
              | some n =>
                rw [hmm] at hlo hm
                simp only [lookOf] at hlo
                split at hlo
                · rename_i es0 hn
                  cases hlo
                  generalize hx : a.eval x = m' at *
                  cases hm
                  rename_i b hb
                  obtain ⟨es2, es', cl, h2, h3, h4⟩ := c.hr.look hn hb
                  obtain ⟨j, hj⟩ := like_key h3 hh
                  have hrun : (execOp a.eval o).run P w = Result.andThen (Sem.run P ((do
                      Instr.checkKey es'.isEmpty 10000 kt (a.eval i)
                      match ← Instr.findKey kt (a.eval i) es'.toList with
                      | some (_, v) => pure (if ok then Value.tuple #[v, .bool true] else v)
                      | none => do
                        let z ← zeroValue e
                        pure (if ok then Value.tuple #[z, .bool false] else z)) : Sem Value) w) (fun v w' => .ok (.value v) w') := by
                    have hK' : ∀ K : Array MapEntry → Sem Value, ((do
                        let .map es _ ← getObj b | stuck "Lookup: map expected"
                        K es) : Sem Value).run P w = (K es').run P w := fun K => by simp [run_getObj_map h2]
                    simp only [execOp, ho, Instr.lookup, hx, Sem.run_bind, run_underlying hD, Result.andThen_ok]
                    have := hK' (fun es => do
                      Instr.checkKey es.isEmpty 10000 kt (a.eval i)
                      match ← Instr.findKey kt (a.eval i) es.toList with
                      | some (_, v) => pure (if ok then Value.tuple #[v, .bool true] else v)
                      | none => do
                        let z ← zeroValue e
                        pure (if ok then Value.tuple #[z, .bool false] else z))
                    simp only [Sem.run_bind] at this
                    refine congrArg (fun r => Result.andThen r _) ?_
                    exact Eq.trans rfl this
                  simp only [Sem.run_bind, hck, Result.andThen_ok] at hrun
                  obtain ⟨r', h5, h6⟩ := findKey_sound c.ty hKD hk w h4 hj
                  cases h6
                  rename_i u' hu
                  refine ⟨_, ?_, okA_sound true hu⟩
                  rw [hrun, h5]
                  rfl
                · cases hlo
            | _ => rw [hmm] at hlo; cases hlo
          · cases hp
        · cases hp
      · cases hp
    · cases hp
  · cases hp
end
end Go.Exe
