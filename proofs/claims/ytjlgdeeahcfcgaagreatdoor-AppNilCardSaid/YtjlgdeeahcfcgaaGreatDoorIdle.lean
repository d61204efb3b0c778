/- The deferred closure that recovers, where nothing panics. strings.Builder's copyCheck and String, wherever the builder stands: what they do, as the executor has it; a text that has been made of a builder is read alone from then on. copyCheck and String as calls that are known to the executor. -/
import Derived.Test.YtjlgdeeahcfcgaaGreatDoorShelf
import Derived.Test.YtjlgdeeahcfcgaaGreatDoorExeSound
import Derived.Tactics
import Derived.Tactics2
import Derived.Defers
import Derived.Recover
import Derived.Laws.Pointers
import Derived.Test.YtjlgdeeahcfcgaaGreatDoorProg
import Derived.WalkKit
import Derived.WalkSpells
import Derived.Lib.Builder
import Derived.Lib.UnsafeStr
import Derived.Laws.Externs
set_option linter.unusedVariables false
set_option linter.unusedSimpArgs false
namespace Go.Proofs.YtjlgdeeahcfcgaaGreatDoor
open Go.RowKit

theorem idle214 (a : Value) (w : World) :
    CallsD Tryz.prog 214 #[a] .returning w fun e u' w' => (∃ v, e = .returned v) ∧ u' = .returning ∧ Below w.heap.size w w' := by
  have hta : ∀ w, (Instr.typeAssert Value.nilIface 20 311 true).run Tryz.prog w = .ok (.tuple #[.agg #[.int .i64 0], .bool false]) w := fun w => by
    simp [Instr.typeAssert, go_sem, Tryz.runUnderlying311, Tryz.runUnderlying20, Tryz.zeroValue311]
  refine callsD_of_wpS Tryz.func214 rfl fun c₀ cs hu => ?_
  apply wpS_seq
  apply wpS_region
  rw [show #[a] ++ Array.replicate (Tryz.f214.ntmps - (#[a] : Array Value).size) undef = #[a, undef, undef, undef, undef, undef, undef, undef, undef, undef, undef] from by rw [Tryz.ntmps214]; rfl]
  simp [wpOpsS, go_sem, recoverD, hu, Tryz.ntmps214, Exit.thenS, hta]
  apply wpS_seq
  apply wpS_region
  simp [wpOpsS, go_sem, Exit.thenS]
  refine wpS_cond (t := false) (by simp [Act.eval]) ?_
  simp only [Bool.false_eq_true, if_false]
  refine wpS_of_wp (wp_skip ?_)
  cases c₀
  simp_all [bodyPostS, results, Tryz.results214]
  exact (Below.refl _ _).alloc (Nat.le_refl _) _

end Go.Proofs.YtjlgdeeahcfcgaaGreatDoor
namespace Go.Proofs.YtjlgdeeahcfcgaaGreatDoor
open Go.Exe Go.RowKit
set_option linter.unusedSectionVars false
variable [Opn]

theorem info38 : (Tryz.prog.info? 196).map (fun i => i.size) = some 2 := by kernel_rfl

set_option maxHeartbeats 1000000 in
set_option maxRecDepth 100000 in
theorem copyCheck_used (b o : Nat) (w : World) (h0 : w.cell? ⟨b, o, none⟩ = some (.pointer (some ⟨b, o, none⟩))) :
    Calls Tryz.prog 195 #[.pointer (some ⟨b, o, none⟩)] w fun e w' => e = .returned (.tuple #[]) ∧ w = w' := by
  obtain ⟨j, hj, hjs⟩ := Option.map_eq_some_iff.1 info38
  go_enter Tryz.func195, Tryz.ntmps195
  go_wp2
  rw [Lib.run_neq_ptr_same w _ Tryz.underlying194 hj]
  go_wp2
  go_end0
  exact ⟨rfl, rfl⟩

set_option maxHeartbeats 1000000 in
set_option maxRecDepth 100000 in
theorem copyCheck_fresh (b o e cells : Nat) (w : World) (h0 : w.cell? ⟨b, o, none⟩ = some (.pointer none)) (hsh : w.shape? b = some (e, cells)) (hoff : o < cells) (hfz : w.frozen? ⟨b, o, none⟩ = false)
    (hlies : liesAt Tryz.prog Tryz.prog.depth e (cells / Tryz.prog.cellsOf e) o 196 1 = true) :
    Calls Tryz.prog 195 #[.pointer (some ⟨b, o, none⟩)] w fun e w' => e = .returned (.tuple #[]) ∧ w.setCell ⟨b, o, none⟩ (.pointer (some ⟨b, o, none⟩)) = w' := by
  obtain ⟨j, hj, hjs⟩ := Option.map_eq_some_iff.1 info38
  go_enter Tryz.func195, Tryz.ntmps195
  go_wp2
  rw [Lib.run_to_unsafe w ⟨b, o, none⟩ Tryz.underlying194 Tryz.underlying392 hj (by rw [hjs]; decide) hsh hoff]
  simp only [Result.andThen]
  rw [Oper.upon_value]
  go_wp2
  rw [run_callFunc_extern Tryz.func323 (by kernel_rfl) (by kernel_rfl) (by kernel_rfl) (e := Extern.AbiNoEscape.same) (by kernel_rfl)]
  rw [Lib.run_noEscape]
  simp only [Result.andThen]
  rw [Oper.upon_value]
  go_wp2
  rw [Lib.run_from_unsafe w ⟨b, o, none⟩ Tryz.underlying392 Tryz.underlying194 hj hsh hlies]
  simp only [Result.andThen]
  rw [Oper.upon_value]
  go_wp2
  go_end0
  exact ⟨rfl, rfl⟩

theorem rowAt_mono (p : Program) (fits : TypeId → Bool) : ∀ (d e c c' off n : Nat), c ≤ c' → rowAt p fits d e c off n = true → rowAt p fits d e c' off n = true
  | 0, _, _, _, _, _, _, h => by simp [rowAt] at h
  | d + 1, e, c, c', off, n, hc, h => by
    unfold rowAt at h ⊢
    dsimp only at h ⊢
    by_cases hs : p.cellsOf e = 0
    · rw [if_pos hs] at h; cases h
    · rw [if_neg hs] at h ⊢
      simp only [Bool.or_eq_true, Bool.and_eq_true, decide_eq_true_eq] at h ⊢
      rcases h with ⟨⟨h1, h2⟩, h3⟩ | ⟨h1, h2⟩
      · exact .inl ⟨⟨h1, by omega⟩, h3⟩
      · exact .inr ⟨by omega, h2⟩

theorem liesAt_mono (p : Program) : ∀ (d e c c' off u n : Nat), c ≤ c' → liesAt p d e c off u n = true → liesAt p d e c' off u n = true
  | 0, _, _, _, _, _, _, _, h => by simp [liesAt] at h
  | d + 1, e, c, c', off, u, n, hc, h => by
    unfold liesAt at h ⊢
    simp only [Bool.or_eq_true] at h ⊢
    rcases h with h | h
    · exact .inl (rowAt_mono p _ _ _ _ _ _ _ hc h)
    · refine .inr ?_
      split at h
      · exact liesAt_mono p d _ _ _ _ _ _ hc h
      · cases h

set_option maxHeartbeats 2000000 in
set_option maxRecDepth 100000 in
theorem string_row (b o g k cap : Nat) (cur : Array Value) (l : List UInt8) (fr : Nat × Nat) (w : World) (hb : w.cell? ⟨b, o + 1, none⟩ = some (.slice (some ⟨g, 0, none⟩) l.length cap)) (h0 : l ≠ []) (hc : l.length ≤ cap)
    (hg : w.heap[g]? = some (.cells cur 5 fr)) (hn : l.length ≤ cur.size) (hsz : l.length ≤ 1000000000) (hcur : ∀ (j : Nat) (x : UInt8), l[j]? = some x → cur[j]? = some (Value.int .u8 (x.toNat : Nat))) :
    Calls Tryz.prog 108 #[.pointer (some ⟨b, o, none⟩)] w fun e w' => e = .returned (.string ⟨l.toArray⟩) ∧ w.drew.freeze ⟨g, 0, none⟩ l.length = w' := by
  have hl0 : l.length ≠ 0 := by simpa using h0
  have ha : (⟨b, o, none⟩ : Addr).add 1 = ⟨b, o + 1, none⟩ := addr_add b o 1
  have c1 : w.drew.cell? ⟨b, o + 1, none⟩ = some (.slice (some ⟨g, 0, none⟩) l.length cap) := hb
  have hSD : (Builtin.unsafeSliceData_ #[191] 285 #[.slice (some ⟨g, 0, none⟩) l.length cap]).run Tryz.prog w.drew = .ok (.pointer (some ⟨g, 0, none⟩)) w.drew :=
    Lib.run_unsafeSliceData_row _ _ _ _ _ _ (by omega)
  have hUS : (Builtin.unsafeString_ #[285, 3] 9 #[.pointer (some ⟨g, 0, none⟩), .int .i64 l.length]).run Tryz.prog w.drew = .ok (.string ⟨l.toArray⟩) (w.drew.freeze ⟨g, 0, none⟩ l.length) := by
    refine Lib.run_unsafeString_row w.drew 285 3 9 5 Tryz.underlying285 (by kernel_rfl) g cur.size (by have hg' : w.drew.heap[g]? = some (.cells cur 5 fr) := hg; simp [World.shape?, hg']) l h0 (by omega) (by omega) ?_
    intro j x hx
    have hg' : w.drew.heap[g]? = some (.cells cur 5 fr) := hg
    rw [addr_add, cell_of_row w.drew g (0 + j) cur 5 fr hg']
    rw [Nat.zero_add]
    exact hcur j x hx
  go_enter Tryz.func108, Tryz.ntmps108
  go_wp2
  go_region
  all_goals
    go_wp2
    go_ret
    exact ⟨rfl, rfl⟩

set_option maxHeartbeats 2000000 in
set_option maxRecDepth 100000 in
theorem string_nil (b o : Nat) (w : World) (hb : w.cell? ⟨b, o + 1, none⟩ = some (.slice none 0 0)) :
    Calls Tryz.prog 108 #[.pointer (some ⟨b, o, none⟩)] w fun e w' => e = .returned (.string ⟨#[]⟩) ∧ w.drew = w' := by
  have ha : (⟨b, o, none⟩ : Addr).add 1 = ⟨b, o + 1, none⟩ := addr_add b o 1
  have c1 : w.drew.cell? ⟨b, o + 1, none⟩ = some (.slice none 0 0) := hb
  have hSD : (Builtin.unsafeSliceData_ #[191] 285 #[.slice none 0 0]).run Tryz.prog w.drew = .ok (.pointer none) w.drew := rfl
  have hUS : (Builtin.unsafeString_ #[285, 3] 9 #[.pointer none, .int .i64 0]).run Tryz.prog w.drew = .ok (.string .empty) w.drew := Lib.run_unsafeString_none w.drew _ _ _ none
  go_enter Tryz.func108, Tryz.ntmps108
  go_wp2
  go_region
  all_goals
    go_wp2
    go_ret
    exact ⟨rfl, rfl⟩
end Go.Proofs.YtjlgdeeahcfcgaaGreatDoor
namespace Go.Proofs.YtjlgdeeahcfcgaaGreatDoor
open Go.Exe Go.RowKit
set_option linter.unusedSectionVars false
variable [Opn]

/-- Where builders lie: in a row of this type, at this cell; so many cells are wanted. -/
def builderAt (e o : Nat) : Option Nat :=
  match e, o with
  | 196, 0 => some 2
  | _, _ => none

def chk (n o : Nat) (S : St) : Option Out :=
  match S.heap.get n with
  | some (.cells cs e m) => match listGet cs o with
    | some (.ptr (some (n', o'))) => match Nat.beq n n', Nat.beq o o' with
      | true, true => some (.call (.tuple []) S)
      | _, _ => none
    | some (.ptr none) => match builderAt e o with
      | some k => match Nat.ble k cs.length, lay cs o [.ptr (some (n, o))] with
        | true, some cs' => match S.set n (some (.cells cs' e m)) with
          | some S' => some (.call (.tuple []) S')
          | none => none
        | _, _ => none
      | none => none
    | _ => none
  | _ => none

def rowOf (o : Option AObj) : Option (List AV) :=
  match o with
  | some (.cells cs e _) => match Nat.beq e 5 with
    | true => some cs
    | false => none
  | some (.stiff cs e) => match Nat.beq e 5 with
    | true => some cs
    | false => none
  | _ => none

def strOf (g l : Nat) (S : St) : Option Out :=
  match rowOf (S.heap.get g) with
  | some row => match take row l, Nat.ble l 1000000, Nat.ble 1 l with
    | some bs, true, true => match bytesOf? bs with
      | some b => match S.set g (some (.stiff row 5)) with
        | some S' => some (.call (.str b) S')
        | none => none
      | none => none
    | _, _, _ => none
  | none => none

def strB (n o : Nat) (S : St) : Option Out :=
  match S.heap.get n with
  | some (.cells cs _ _) => match listGet cs (o + 1) with
    | some (.slice none l r none) => match Nat.beq l 0, Nat.beq r 0 with
      | true, true => some (.call (.str []) S)
      | _, _ => none
    | some (.slice (some (g, p)) l _ _) => match Nat.beq p 0 with
      | true => strOf g l S
      | false => none
    | _ => none
  | _ => none

def memoB (f : FuncId) (args : List AV) (S : St) : Option Out :=
  match f with
  | 195 => match args with
    | [.ptr (some (n, o))] => chk n o S
    | _ => none
  | 108 => match args with
    | [.ptr (some (n, o))] => strB n o S
    | _ => none
  | _ => none

/-- What a call that is known says. -/
def Known (f : FuncId) (args : List AV) (S : St) (out : Out) : Prop :=
  Ver S out.st ∧ ∃ v S', out = .call v S' ∧ ∀ θ B w args', SR θ B S w → VRs θ args args' → Calls Tryz.prog f args'.toArray w (fun e w' => ∃ v' θ', e = .returned v' ∧ VR θ' v v' ∧ SR θ' B S' w' ∧ Ext θ S w θ' S' w')

theorem lies38 : liesAt Tryz.prog Tryz.prog.depth 196 1 0 196 1 = true := by kernel_rfl
theorem cells38 : Tryz.prog.cellsOf 196 = 2 := by kernel_rfl

theorem builderAt_lies {e o k n : Nat} (h : builderAt e o = some k) (hn : k ≤ n) : liesAt Tryz.prog Tryz.prog.depth e (n / Tryz.prog.cellsOf e) o 196 1 = true := by
  unfold builderAt at h
  split at h
  · cases h
    rw [cells38]
    exact liesAt_mono _ _ _ _ _ _ _ _ (by omega) lies38
  · cases h

theorem frozen_no {w : World} {b o : Nat} {c : Array Value} {e : TypeId} {fr : Nat × Nat} (hb : w.heap[b]? = some (.cells c e fr)) (hf : fr.1 = fr.2 ∨ c.size ≤ fr.1) (ho : o < c.size) : w.frozen? ⟨b, o, none⟩ = false := by
  unfold World.frozen?
  rw [hb]
  obtain ⟨lo, hi⟩ := fr
  simp only at hf ⊢
  rcases hf with rfl | hf
  · first | (simp; done) | (simp; omega)
  · first | (simp; done) | (simp; omega)

theorem get_lt {α : Type} {l : List α} {i : Nat} {x : α} (h : l[i]? = some x) : i < l.length := by
  rcases Nat.lt_or_ge i l.length with h1 | h1
  · exact h1
  · rw [List.getElem?_eq_none h1] at h; cases h

theorem chk_known {n o : Nat} {S : St} {out : Out} (h : chk n o S = some out) : Known 195 [.ptr (some (n, o))] S out := by
  unfold chk at h
  split at h
  · rename_i cs e m hn
    split at h
    · rename_i n' o' hp
      split at h
      · rename_i h1 h2
        cases h
        have h1 := Nat.eq_of_beq_eq_true h1
        have h2 := Nat.eq_of_beq_eq_true h2
        subst h1; subst h2
        refine ⟨Ver.refl _, _, _, rfl, fun θ B w args' k ha => ?_⟩
        cases ha with
        | cons _ v1 _ _ hv1 ha =>
          cases ha
          cases hv1 with
          | ptr _ _ b hb =>
            obtain ⟨c, fr, pre, rest, hw, hc, hv, _, _⟩ := k.hr.cell hn hb
            obtain ⟨x, hx, hvx⟩ := hv.get hp
            cases hvx with
            | ptr _ _ b' hb' =>
              rw [hb] at hb'
              cases hb'
              have hlt := get_lt hx
              have hcell : w.cell? ⟨b, o, none⟩ = some (.pointer (some ⟨b, o, none⟩)) := by
                rw [cell_of_row w b o c e fr hw, ← Array.getElem?_toList, hc, List.getElem?_append_left hlt]
                exact hx
              refine (copyCheck_used b o w hcell).mono fun e w' ⟨he, hw'⟩ => ?_
              subst hw'
              exact ⟨_, θ, he, .tuple [] [] .nil, k, Ext.refl _ _ _⟩
      · cases h
    · rename_i hp
      split at h
      · rename_i kk hk
        split at h
        · rename_i cs' hle hl
          split at h
          · rename_i S' hS
            cases h
            refine ⟨Ver.up (set_ver hS), _, _, rfl, fun θ B w args' k ha => ?_⟩
            cases ha with
            | cons _ v1 _ _ hv1 ha =>
              cases ha
              cases hv1 with
              | ptr _ _ b hb =>
                obtain ⟨c, fr, pre, rest, hw, hc, hv, hlo, hmo⟩ := k.hr.cell hn hb
                obtain ⟨x, hx, hvx⟩ := hv.get hp
                cases hvx
                have hlt := get_lt hx
                have hlen := hv.length
                have hsz : c.size = pre.length + rest.length := by rw [← Array.length_toList, hc, List.length_append]
                have h64 := (set_eq hS).1
                have hcell : w.cell? ⟨b, o, none⟩ = some (.pointer none) := by
                  rw [cell_of_row w b o c e fr hw, ← Array.getElem?_toList, hc, List.getElem?_append_left hlt]
                  exact hx
                have hle := Nat.le_of_ble_eq_true hle
                refine (copyCheck_fresh b o e c.size w hcell (by simp [World.shape?, hw]) (by omega) (frozen_no hw (hlo h64).2 (by omega)) (builderAt_lies hk (by omega))).mono fun e' w' ⟨he, hw'⟩ => ?_
                subst hw'
                obtain ⟨hcs, hl2⟩ := lay_eq hl
                have hor : OR θ (.cells cs' e m) (.cells (c.setIfInBounds o (.pointer (some ⟨b, o, none⟩))) e fr) := by
                  refine ⟨rfl, Exe.put pre o [.pointer (some ⟨b, o, none⟩)], rest, ?_, ?_, hmo⟩
                  · rw [Array.toList_setIfInBounds, hc, List.set_append_left _ _ hlt]
                    congr 1
                    simp [Exe.put, List.set_eq_take_append_cons_drop, hlt]
                  · rw [hcs]
                    exact hv.put (.cons _ _ _ _ (.ptr _ _ _ hb) .nil) hl2
                obtain ⟨k', hx'⟩ := k.set (w' := w.setCell ⟨b, o, none⟩ (.pointer (some ⟨b, o, none⟩))) (ob' := .cells (c.setIfInBounds o (.pointer (some ⟨b, o, none⟩))) e fr) hS hn hb rfl rfl rfl (by simp [World.setCell])
                  (fun j hj => heap_setCell_other w ⟨b, o, none⟩ j _ hj) (by simp [World.setCell, Array.getElem?_modify, hw]) hor (by
                    have := (hlo h64).2
                    obtain ⟨lo, hi⟩ := fr
                    simpa [Loose] using this)
                exact ⟨_, θ, he, .tuple [] [] .nil, k', hx'⟩
          · cases h
        · cases h
      · cases h
    · cases h
  · cases h

/-- A row of bytes, as it stands. -/
theorem row_of {θ : Th} {B : Nat} {S : St} {w : World} (k : SR θ B S w) {g : Nat} {row : List AV} (h : rowOf (S.heap.get g) = some row) :
    ∃ o b cur fr pre rest, S.heap.get g = some o ∧ θ.blk g = some b ∧ w.heap[b]? = some (.cells cur 5 fr) ∧ cur.toList = pre ++ rest ∧ VRs θ row pre := by
  unfold rowOf at h
  split at h
  · rename_i cs e m hg
    split at h
    · rename_i he
      cases h
      have he := Nat.eq_of_beq_eq_true he
      subst he
      obtain ⟨b, ob, hb, _⟩ := k.hr.obj g _ hg
      obtain ⟨c, fr, pre, rest, hw, hc, hv, _⟩ := k.hr.cell hg hb
      exact ⟨_, b, c, fr, pre, rest, hg, hb, hw, hc, hv⟩
    · cases h
  · rename_i cs e hg
    split at h
    · rename_i he
      cases h
      have he := Nat.eq_of_beq_eq_true he
      subst he
      obtain ⟨b, ob, hb, hw, hor, _⟩ := k.hr.obj g _ hg
      cases ob <;> simp only [OR] at hor
      obtain ⟨rfl, pre, rest, hc, hv⟩ := hor
      exact ⟨_, b, _, _, pre, rest, hg, hb, hw, hc, hv⟩
    · cases h
  · cases h

theorem strB_known {n o : Nat} {S : St} {out : Out} (h : strB n o S = some out) : Known 108 [.ptr (some (n, o))] S out := by
  unfold strB at h
  split at h
  · rename_i cs e m hn
    split at h
    · rename_i l r hp
      split at h
      · rename_i h1 h2
        cases h
        have h1 := Nat.eq_of_beq_eq_true h1
        have h2 := Nat.eq_of_beq_eq_true h2
        subst h1; subst h2
        refine ⟨Ver.refl _, _, _, rfl, fun θ B w args' k ha => ?_⟩
        cases ha with
        | cons _ v1 _ _ hv1 ha =>
          cases ha
          cases hv1 with
          | ptr _ _ b hb =>
            obtain ⟨c, fr, pre, rest, hw, hc, hv, _, _⟩ := k.hr.cell hn hb
            obtain ⟨x, hx, hvx⟩ := hv.get hp
            cases hvx with
            | sliceN _ _ c0 hc0 =>
              have hc0 : c0 = 0 := by omega
              subst hc0
              have hlt := get_lt hx
              have hcell : w.cell? ⟨b, o + 1, none⟩ = some (.slice none 0 0) := by
                rw [cell_of_row w b (o + 1) c e fr hw, ← Array.getElem?_toList, hc, List.getElem?_append_left hlt]
                exact hx
              refine (string_nil b o w hcell).mono fun e w' ⟨he, hw'⟩ => ?_
              subst hw'
              obtain ⟨k', hx'⟩ := k.grow (Below.drew (Below.refl w.heap.size w))
              exact ⟨_, θ, he, .str ⟨#[]⟩, k', hx'⟩
      · cases h
    · rename_i g p l r mo hp
      split at h
      · rename_i hp0
        have hp0 := Nat.eq_of_beq_eq_true hp0
        subst hp0
        unfold strOf at h
        split at h
        · rename_i row hrow
          split at h
          · rename_i bs hta hle hone
            split at h
            · rename_i by_ hby
              split at h
              · rename_i S' hS
                cases h
                have hle := Nat.le_of_ble_eq_true hle
                have hone := Nat.le_of_ble_eq_true hone
                refine ⟨Ver.up (set_ver hS), _, _, rfl, fun θ B w args' k ha => ?_⟩
                cases ha with
                | cons _ v1 _ _ hv1 ha =>
                  cases ha
                  cases hv1 with
                  | ptr _ _ b hb =>
                    obtain ⟨c, fr, pre, rest, hw, hc, hv, _, _⟩ := k.hr.cell hn hb
                    obtain ⟨x, hx, hvx⟩ := hv.get hp
                    have hlt := get_lt hx
                    obtain ⟨og, bg, cur, frg, prg, reg, hog, hbg, hwg, hcg, hvg⟩ := row_of k hrow
                    obtain ⟨hvt, htl⟩ := hvg.take hta
                    obtain ⟨hbs, h255⟩ := bytes_of bs hvt hby
                    have hsz : cur.size = prg.length + reg.length := by rw [← Array.length_toList, hcg, List.length_append]
                    have hlby : by_.length = l := by
                      have := congrArg List.length hbs
                      simp only [List.length_take, List.length_map] at this
                      omega
                    obtain ⟨cap, hcap, hxe⟩ : ∃ cap, l ≤ cap ∧ x = .slice (some ⟨bg, 0, none⟩) l cap := by
                      cases hvx with
                      | slice _ _ b' _ _ c' h1 h2 => rw [hbg] at h2; cases h2; exact ⟨c', by omega, rfl⟩
                      | sliceS _ _ b' _ _ s xx c' h1 h2 h3 => rw [hbg] at h2; cases h2; exact ⟨c', by omega, rfl⟩
                      | slice0 => omega
                    subst hxe
                    let L : List UInt8 := by_.map Nat.toUInt8
                    have hL : L.length = l := by simp [L, hlby]
                    have hLn : L.map UInt8.toNat = by_ := by
                      simp only [L, List.map_map]
                      conv => rhs; rw [← List.map_id by_]
                      apply List.map_congr_left
                      intro z hz
                      have := h255 z hz
                      show (UInt8.ofNat z).toNat = z
                      rw [UInt8.toNat_ofNat']
                      omega
                    have hcell : w.cell? ⟨b, o + 1, none⟩ = some (.slice (some ⟨bg, 0, none⟩) L.length cap) := by
                      rw [cell_of_row w b (o + 1) c e fr hw, ← Array.getElem?_toList, hc, List.getElem?_append_left hlt, hL]
                      exact hx
                    refine (string_row b o bg 0 cap cur L frg w hcell (by intro h0; rw [h0] at hL; simp at hL; omega) (by omega) hwg (by omega) (by omega) ?_).mono fun e w' ⟨he, hw'⟩ => ?_
                    · intro j y hy
                      have hj := get_lt hy
                      have h3 : (prg.take l)[j]? = some (Value.int .u8 (y.toNat : Nat)) := by
                        rw [hbs, ← hLn, List.map_map, List.getElem?_map, hy]
                        rfl
                      rw [List.getElem?_take] at h3
                      split at h3
                      · rw [← Array.getElem?_toList, hcg, List.getElem?_append_left (get_lt h3)]
                        exact h3
                      · cases h3
                    · subst hw'
                      have hL0 : L.length ≠ 0 := by omega
                      have hnew : (w.drew.freeze ⟨bg, 0, none⟩ L.length).heap[bg]? = some (.cells cur 5 (if frg.1 == frg.2 then (0, 0 + L.length) else (min frg.1 0, max frg.2 (0 + L.length)))) := by
                        have hwg' : w.drew.heap[bg]? = some (.cells cur 5 frg) := hwg
                        unfold World.freeze
                        rw [if_neg hL0]
                        show (w.drew.heap.modify bg _)[bg]? = _
                        rw [Array.getElem?_modify, if_pos rfl, hwg']
                        rfl
                      obtain ⟨k', hx'⟩ := k.setO (w' := w.drew.freeze ⟨bg, 0, none⟩ L.length) (o' := .stiff row 5) hS hog hbg (by unfold World.freeze; split <;> rfl) (by unfold World.freeze; split <;> rfl) (by unfold World.freeze; split <;> rfl)
                        (by unfold World.freeze; rw [if_neg hL0]; exact Array.size_modify) (fun j hj => by
                          unfold World.freeze
                          rw [if_neg hL0]
                          show (w.drew.heap.modify bg _)[j]? = _
                          rw [Array.getElem?_modify, if_neg (fun e => hj e.symm)]
                          rfl) hnew ⟨rfl, prg, reg, hcg, hvg⟩ trivial
                      refine ⟨_, θ, he, ?_, k', hx'⟩
                      have := VR.str (θ := θ) ⟨L.toArray⟩
                      rw [← hLn]
                      exact this
              · cases h
            · cases h
          · cases h
        · cases h
      · cases h
    · cases h
  · cases h

theorem memoB_known {f : FuncId} {args : List AV} {S : St} {out : Out} (h : memoB f args S = some out) : Known f args S out ∧ ∀ args w, (callFunc f args).run Tryz.prog w = .ok (.enter f args) w := by
  unfold memoB at h
  split at h
  · split at h
    · exact ⟨chk_known h, Tryz.call195⟩
    · cases h
  · split at h
    · exact ⟨strB_known h, Tryz.call108⟩
    · cases h
  · cases h

theorem memoB_ok : MemoOk Tryz.prog memoB where
  ver := fun f args S out h => (memoB_known h).1.1
  sound := fun nt f args S out h => by
    obtain ⟨⟨_, v, S', rfl, h1⟩, h2⟩ := memoB_known h
    exact fun θ B w args' k ha => ⟨h2, h1 θ B w args' k ha⟩
end Go.Proofs.YtjlgdeeahcfcgaaGreatDoor
