/- The executor: the operations that change what is there. -/
import Derived.Test.YtlngchhjdnalbaaGreatDoorExeEff
set_option linter.unusedVariables false
set_option linter.unusedSimpArgs false
namespace Go.Exe
open Go.RowKit

/-- What an operation that writes has come to. -/
def Wrote (P : Program) (a : Act) (o : Oper) (θ : Th) (B : Nat) (S : St) (w : World) (v : AV) (S' : St) : Prop :=
  ∃ θ' w' r v', (execOp a.eval o).run P w = .ok r w' ∧ (r = .value v' ∨ (r = .skip ∧ v' = undef)) ∧ VR θ' v v' ∧ SR θ' B S' w' ∧ Ext θ S w θ' S' w'

section
variable {P : Program} {ty : Tr TI} {θ : Th} {B : Nat} {S S' : St} {w : World} {nt : Nat} {T : Tr AV} {a : Act} {v : AV}

theorem ef_store (hty : TyOk P ty) (k : SR θ B S w) (tr : TR θ nt T a) {o : Oper} {t : TypeId} {x y : Operand} (ho : o.op = .store t x y) (hp : effOp ty S T (.store t x y) = some (v, S')) : Wrote P a o θ B S w v S' := by
  simp only [effOp, efstore, efmapUpdate, efconvert, efappend, efcopy] at hp
  split at hp
  · rename_i ti n off u hti hx hy
    split at hp
    · rename_i cs e mo hn
      split at hp
      · rename_i hlen
        split at hp
        · rename_i cs' hlay
          split at hp
          · rename_i S1 hset
            simp only [Option.some.injEq, Prod.mk.injEq] at hp
            obtain ⟨rfl, rfl⟩ := hp
            simp only [Bool.and_eq_true] at hlen
            have hx := ev_sound tr k.glob hx
            have hy := ev_sound tr k.glob hy
            obtain ⟨rfl, hfit⟩ := lay_eq hlay
            have h64 := (set_eq hset).1
            generalize hxe : a.eval x = x' at hx
            cases hx
            rename_i b hb
            obtain ⟨c, fr, pre, rest, h1, h2, h3, h4, h5⟩ := k.hr.cell hn hb
            have hvc := hy.cells
            have hl1 := hvc.length
            have hl3 := h3.length
            have hcs : c.size = pre.length + rest.length := by rw [← Array.length_toList, h2]; simp
            have hsz : (a.eval y).cells.size = ti.size := by rw [← Array.length_toList, hl1]; exact Nat.eq_of_beq_eq_true hlen.1
            obtain ⟨w', c', r1, r2, r3, r4, r5, r6, r7, r8, r9⟩ := storeCells_run (P := P) (b := b) (a.eval y).cells.toList 0 off w c e fr h1 (h4 h64).2 (hvc.one hlen.2) (by rw [hl1]; omega)
            have hput : c'.toList = Exe.put pre off (a.eval y).cells.toList ++ rest := by
              rw [r8, h2, Nat.add_zero]
              simp only [Exe.put]
              rw [List.take_append_of_le_length (by omega), List.drop_append_of_le_length (by rw [hl1]; omega)]
              simp
            obtain ⟨s1, s2⟩ := k.set hset hn hb r2 r3 r4 r5 r6 r7 ⟨rfl, _, rest, hput, h3.put hvc hfit, h5⟩ (by
              obtain ⟨lo, hi⟩ := fr
              exact (h4 h64).2.imp id (fun h => by rw [r9]; exact h))
            refine ⟨θ, w', .skip, undef, ?_, .inr ⟨rfl, rfl⟩, VR.undef, s1, s2⟩
            simp only [execOp, ho, hxe, Instr.storeAt, Instr.sureAddr, storeVar, Sem.run_bind, Sem.run_pure, Result.andThen_ok, (hty _ _ hti).size, hsz, ne_eq, not_true_eq_false, if_false, r1]
          · cases hp
        · cases hp
      · cases hp
    · cases hp
  · cases hp

theorem ef_mapUpdate (hty : TyOk P ty) (k : SR θ B S w) (tr : TR θ nt T a) {o : Oper} {t : TypeId} {m x y : Operand} (ho : o.op = .mapUpdate t m x y) (hp : effOp ty S T (.mapUpdate t m x y) = some (v, S')) : Wrote P a o θ B S w v S' := by
  simp only [effOp, efstore, efmapUpdate, efconvert, efappend, efcopy] at hp
  split at hp
  · rename_i ti r kk u hti hm hx hy
    split at hp
    · rename_i kt e hk
      split at hp
      · rename_i es cl hpk hn
        split at hp
        · rename_i hfind
          split at hp
          · rename_i S1 hset
            simp only [Option.some.injEq, Prod.mk.injEq] at hp
            obtain ⟨rfl, rfl⟩ := hp
            have hm := ev_sound tr k.glob hm
            have hx := ev_sound tr k.glob hx
            have hy := ev_sound tr k.glob hy
            have h64 := (set_eq hset).1
            obtain ⟨D, hD, hK⟩ := (hty _ _ hti).und
            rw [hk] at hK
            obtain rfl := kd_map hK
            generalize hme : a.eval m = m' at hm
            cases hm
            rename_i b hb
            obtain ⟨es', h1, h2⟩ := k.hr.map hn hb
            have hKD : ∃ D, P.underlying kt = some D := by
              simp only [plainKey] at hpk
              split at hpk
              · cases hpk
              · rename_i tk htk
                obtain ⟨D, h1, _⟩ := (hty _ _ htk).und
                exact ⟨D, h1⟩
            obtain ⟨KD, hKD⟩ := hKD
            have hck := checkKey_sound hty 4 10000 kt kk (a.eval x) false (by decide) hx hpk w
            obtain ⟨r', h3, h4⟩ := findKey_sound hty hKD hx w h2 hfind
            cases h4
            let w' : World := { w with heap := w.heap.setIfInBounds b (.map (es'.push { key := a.eval x, val := a.eval y, born := cl }) (cl + 1)) }
            have hbl : b < w.heap.size := by
              rcases Nat.lt_or_ge b w.heap.size with h | h
              · exact h
              · rw [Array.getElem?_eq_none h] at h1; cases h1
            obtain ⟨s1, s2⟩ := k.set (w' := w') (b := b) (ob' := .map (es'.push { key := a.eval x, val := a.eval y, born := cl }) (cl + 1)) hset hn hb rfl rfl rfl (by simp [w'])
              (fun j hj => by simp only [w']; rw [Array.getElem?_setIfInBounds_ne (fun h => hj h.symm)]) (by simp only [w']; rw [Array.getElem?_setIfInBounds_self_of_lt hbl])
              ⟨rfl, by
                have := h2.append (ERs.cons kk u cl (a.eval x) (a.eval y) [] [] hx hy .nil)
                simpa using this⟩ trivial
            refine ⟨θ, w', .skip, undef, ?_, .inr ⟨rfl, rfl⟩, VR.undef, s1, s2⟩
            have hset : (setObj b (.map (es'.push { key := a.eval x, val := a.eval y, born := cl }) (cl + 1))).run P w = .ok () w' := by
              simp [setObj, Sem.run, h1, w']
            simp only [execOp, ho, hme, Instr.mapUpdate, Sem.run_bind, run_underlying hD, Result.andThen_ok, run_getObj_map (P := P) h1, hck, h3, hset]
            rfl
          · cases hp
        · cases hp
      · cases hp
    · cases hp
  · cases hp

theorem ef_convert (hty : TyOk P ty) (k : SR θ B S w) (tr : TR θ nt T a) {o : Oper} {s d : TypeId} {x : Operand} (ho : o.op = .convert s d x) (hp : effOp ty S T (.convert s d x) = some (v, S')) : Wrote P a o θ B S w v S' := by
  simp only [effOp, efstore, efmapUpdate, efconvert, efappend, efcopy] at hp
  split at hp
  · rename_i ts td l hts htd hx
    split at hp
    · rename_i e hk
      split at hp
      · rename_i te hte
        split at hp
        · rename_i hke hle
          have hx := ev_sound tr k.glob hx
          obtain ⟨Sd, hS, hKs⟩ := (hty _ _ hts).und
          obtain ⟨D, hD, hK⟩ := (hty _ _ htd).und
          rw [hk] at hK
          obtain rfl := kd_slice hK
          obtain ⟨E, hE, hKe⟩ := (hty _ _ hte).und
          rw [hke] at hKe
          obtain rfl := kd_int hKe
          have hte1 : te.size = 1 := by
            obtain ⟨z, hz1, hz2, hz3, hz4, hz5⟩ := (hty _ _ hte).zero
            have := hz4 (by rw [hke]; rfl)
            rw [this] at hz5
            simpa using hz5.symm
          unfold St.pushS at hp
          simp only [fObj_eq, Tr.putK_eq, fN_eq, Option.some.injEq, Prod.mk.injEq] at hp
          obtain ⟨rfl, rfl⟩ := hp
          generalize hxe : a.eval x = x' at hx
          cases hx
          rename_i str
          have hsz : (List.map UInt8.toNat str.data.toList).length = str.size := by simp
          rw [hsz] at hle ⊢
          have hle := Nat.le_of_ble_eq_true hle
          let q : Question := .appendCap str.size 0 e
          let cap := q.cut (w.tape w.drawn q)
          have hcap : str.size ≤ cap := by
            show str.size ≤ Question.cut (.appendCap str.size 0 e) _
            simp only [Question.cut]; omega
          let cells : Array Value := (str.data.map fun b => Value.int .u8 b.toNat) ++ Array.replicate (cap - str.size) (.int .u8 0)
          let w1 : World := { w with drawn := w.drawn + 1, heap := w.heap.push (.cells cells e) }
          let w2 : World := w1.freeze ⟨w.heap.size, cells.size, none⟩ 1
          have hpre : cells.toList = (str.data.toList.map fun b => Value.int .u8 (b.toNat : Nat)) ++ List.replicate (cap - str.size) (.int .u8 0) := by simp [cells]
          have hvr : ∀ θ', VRs θ' ((List.map UInt8.toNat str.data.toList).map fun b => AV.int .u8 (.ofNat b)) (str.data.toList.map fun b => Value.int .u8 (b.toNat : Nat)) := by
            intro θ'
            induction str.data.toList with
            | nil => exact .nil
            | cons b bs ih => exact .cons _ _ _ _ (.int _ _) ih
          have hheap : w2.heap = w.heap.push (.cells cells e (cells.size, cells.size + 1)) := by
            apply Array.ext_getElem?
            intro i
            simp only [w2, w1, World.freeze, Nat.one_ne_zero, if_false, Array.getElem?_modify, Array.getElem?_push]
            by_cases hi : i = w.heap.size
            · subst hi; simp
            · have hi2 : ¬ w.heap.size = i := fun h => hi h.symm
              simp [hi, hi2]
          obtain ⟨s1, s2⟩ := SR.plus (w' := w2) (r := Nat.succ S.ver) (k := k) (o := .cells ((List.map UInt8.toNat str.data.toList).map fun b => AV.int .u8 (.ofNat b)) e (some (S.syms, te.size))) (ob := .cells cells e (cells.size, cells.size + 1)) (y := some (cap - str.size)) (sy := S.syms + 1) (Nat.le_succ _)
            (fun s h1 h2 => by omega) rfl rfl rfl hheap ⟨rfl, _, _, hpre, hvr _, fun s z e => by
              cases e
              exact ⟨cap - str.size, by simp [Th.plus], by simp [hte1]⟩⟩ (.inr (Nat.le_refl _))
          refine ⟨_, w2, .value (.slice (some ⟨w.heap.size, 0, none⟩) str.size cap), _, ?_, .inl rfl, ?_, s1, s2⟩
          · have hst : w1.shape? w.heap.size = some (e, cells.size) := by simp [w1, World.shape?]
            have hch : (choose q).run P w = .ok cap { w with drawn := w.drawn + 1 } := by simp [choose, Sem.run, q, Question.forced, cap]
            have hcv : (convert s d (.string str)).run P w = .ok (.slice (some ⟨w.heap.size, 0, none⟩) str.size cap) w2 := by
              simp only [convert, Sem.run_bind, run_underlying hS, run_underlying hD, Result.andThen_ok]
              have : (Conv.stringToBytes e str).run P w = .ok (.slice (some ⟨w.heap.size, 0, none⟩) str.size cap) w2 := by
                simp only [Conv.stringToBytes, Sem.run_bind]
                rw [hch]
                simp only [Result.andThen_ok, newRow, Sem.run_bind, run_newObj, Sem.run_pure, markStringish, run_shape]
                have : World.shape? { w with drawn := w.drawn + 1, heap := w.heap.push (.cells cells e) } w.heap.size = some (e, cells.size) := hst
                simp only [cells] at this
                simp only [this, Sem.run_bind, Result.andThen_ok, run_freeze]
                rfl
              cases Sd <;> simp only [Sem.run_bind, run_underlying hE, Result.andThen_ok, this]
            simp only [execOp, ho, hxe, Sem.run_bind, hcv, Result.andThen_ok, Sem.run_pure]
          · exact .sliceS _ _ _ _ _ _ (cap - str.size) _ (by omega) (by simp [Th.plus]) (by simp [Th.plus])
        · cases hp
      · cases hp
    · cases hp
  · cases hp

theorem lenA_sound {x : AV} {x' : Value} {n : Nat} (hx : VR θ x x') (h : lenA x = some n) (w : World) : (Builtin.lenOf x').run P w = .ok n w := by
  cases hx <;> simp only [lenA, Option.some.injEq, reduceCtorEq] at h <;> subst h <;> simp [Builtin.lenOf]

/-- The first cells of what is appended or copied. -/
theorem firstA_sound (k : SR θ B S w) {size n : Nat} {x : AV} {x' : Value} {l : List AV} (hx : VR θ x x') (hn : ∃ m, lenA x = some m ∧ n ≤ m) (h : firstA S.heap size n x = some l) :
    ∃ l', (Builtin.firstCells size n x').run P w = .ok l'.toArray w ∧ VRs θ l l' := by
  obtain ⟨m, hm, hnm⟩ := hn
  have hcell : ∀ nn off b, θ.blk nn = some b → (match S.heap.get nn with | some (.cells cs _ _) => cut cs off (n * size) | _ => none) = some l → ∃ l', (loadCells ⟨b, off, none⟩ (n * size)).run P w = .ok l'.toArray w ∧ VRs θ l l' := by
    intro nn off b hb hc
    split at hc
    · rename_i cs e mo hcs
      obtain ⟨cc, fr, pre, rest, h1, h2, h3, _⟩ := k.hr.cell hcs hb
      obtain ⟨h4, h5⟩ := h3.cut' hc
      have hlen : ((pre.drop off).take (n * size)).length = n * size := by simp; omega
      have hsame : ((pre.drop off).take (n * size)) = (cc.toList.drop off).take (n * size) := by
        rw [h2]
        rcases h5 with h5 | h5
        · rw [h5]; simp
        · rw [List.drop_append_of_le_length (by omega), List.take_append_of_le_length (by simp; omega)]
      have := cells_at h1 off ((pre.drop off).take (n * size)) (by rw [hlen]; exact hsame) P
      rw [hlen] at this
      exact ⟨_, this, h4⟩
    · cases hc
  cases hx <;> simp only [lenA, Option.some.injEq, reduceCtorEq] at hm <;> subst hm
  case sliceN =>
    simp only [firstA] at h
    split at h
    · simp only [Option.some.injEq] at h; subst h; exact ⟨[], by simp [Builtin.firstCells], .nil⟩
    · cases h
  case slice => exact hcell _ _ _ (by assumption) h
  case sliceS => exact hcell _ _ _ (by assumption) h
  case slice0 n' off s ad =>
    obtain rfl : n = 0 := by omega
    have : l = [] := by
      simp only [firstA] at h
      split at h
      · simp only [Nat.zero_mul, cut, Exe.take, Option.some.injEq] at h; exact h.symm
      · cases h
    subst this
    exact ⟨[], by simp [Builtin.firstCells, loadCells, loadCellsFrom], .nil⟩
  case str s =>
    simp only [firstA] at h
    split at h
    · rename_i r hr
      simp only [Option.some.injEq] at h
      subst h
      have hr := take_eq _ _ _ hr
      subst hr
      refine ⟨((s.data.toList.take n).map fun b => Value.int .u8 (b.toNat : Nat)), ?_, ?_⟩
      · simp only [Builtin.firstCells, Sem.run_pure]
        congr 1
        apply Array.ext'
        simp [ByteArray.data_extract, Array.toList_extract, List.extract_eq_take_drop]
      · rw [← List.map_take]
        have : ∀ t : List UInt8, VRs θ ((t.map UInt8.toNat).map fun b => AV.int .u8 (.ofNat b)) (t.map fun b => Value.int .u8 (b.toNat : Nat)) := by
          intro t
          induction t with
          | nil => exact .nil
          | cons b bs ih => exact .cons _ _ _ _ (.int _ _) ih
        exact this _
    · cases h

theorem kd_notint {D : TypeDesc} {kd : Kd} (h : KdOk P D kd) (h1 : ∀ k, kd ≠ .int k) (h2 : kd ≠ .other) : ∀ k, D ≠ .int k := by
  intro k e
  subst e
  cases kd <;> simp [KdOk] at h
  · subst h; exact h1 _ rfl
  · exact h2 rfl
end
end Go.Exe
