/- The executor: copy, and all operations that write. -/
import Derived.Test.YtlngchhjdnalbaaGreatDoorExeApp
set_option linter.unusedVariables false
set_option linter.unusedSimpArgs false
namespace Go.Exe
open Go.RowKit

section
variable {P : Program} {ty : Tr TI} {θ : Th} {B : Nat} {S S' : St} {w : World} {nt : Nat} {T : Tr AV} {a : Act} {v : AV}

theorem firstA_zero {h : Tr AObj} {size : Nat} {x : AV} {l : List AV} (hp : firstA h size 0 x = some l) : l = [] := by
  cases x <;> simp only [firstA, reduceCtorEq] at hp
  case str => simp_all [Exe.take]
  case slice b _ _ _ =>
    cases b with
    | none => simpa [firstA] using hp.symm
    | some p =>
      obtain ⟨n, o⟩ := p
      simp only [firstA] at hp
      split at hp
      · simp_all [cut, Exe.take]
      · cases hp

theorem ef_call (hty : TyOk P ty) (k : SR θ B S w) (tr : TR θ nt T a) {o : Oper} {cl : Call} (ho : o.op = .call cl) (hp : effOp ty S T (.call cl) = some (v, S')) : Wrote P a o θ B S w v S' := by
  obtain ⟨callee, args, argTypes⟩ := cl
  cases callee with
  | value f => simp [effOp, efstore, efmapUpdate, efconvert, efappend, efcopy] at hp
  | invoke r m => simp [effOp, efstore, efmapUpdate, efconvert, efappend, efcopy] at hp
  | builtin b =>
    have hres : (execOp a.eval o).run P w = (builtin b argTypes o.type (args.map fun | .const _ => true | _ => false) (args.map a.eval)).run P w := by
      simp only [execOp, ho, resolve, invoke, Sem.run_bind, Sem.run_pure, Result.andThen_ok]
      rfl
    cases b <;> (try (simp [effOp, efstore, efmapUpdate, efconvert, efappend, efcopy] at hp; done))
    case append =>
      simp only [effOp, efstore, efmapUpdate, efconvert, efappend, efcopy] at hp
      split at hp
      · rename_i t xt s x hat har
        have e1 : argTypes = #[t, xt] := by apply Array.ext'; simpa using hat
        have e2 : args = #[s, x] := by apply Array.ext'; simpa using har
        subst e1; subst e2
        split at hp
        · rename_i s1 x1 hs hx
          obtain ⟨θ', w', v', h1, h2, h3, h4⟩ := ef_append hty k (ev_sound tr k.glob hs) (ev_sound tr k.glob hx) o.type hp
          refine ⟨θ', w', .value v', v', ?_, .inl rfl, h2, h3, h4⟩
          rw [hres]
          simp [builtin, h1]
        · cases hp
      · cases hp
    case copy =>
      simp only [effOp, efstore, efmapUpdate, efconvert, efappend, efcopy] at hp
      split at hp
      · rename_i t rest d x hat har
        have e2 : args = #[d, x] := by apply Array.ext'; simpa using har
        have e1 : argTypes[0]? = some t := by rw [← Array.getElem?_toList, hat]; rfl
        subst e2
        split at hp
        · rename_i ti base dl room more x1 hti hd hx
          split at hp
          · rename_i e xl hk hxl
            split at hp
            · rename_i te hte
              obtain ⟨D, hD, hK⟩ := (hty _ _ hti).und
              rw [hk] at hK
              obtain rfl := kd_slice hK
              have hd := ev_sound tr k.glob hd
              have hx := ev_sound tr k.glob hx
              have hn : minA xl dl = Nat.min xl dl := by
                unfold minA
                split
                · rename_i h; have := Nat.le_of_ble_eq_true h; exact (Nat.min_eq_left this).symm
                · rename_i h
                  have : ¬ xl ≤ dl := fun h' => by rw [Nat.ble_eq_true_of_le h'] at h; cases h
                  exact (Nat.min_eq_right (by omega)).symm
              simp only [hn] at hp
              have hl := lenA_sound (P := P) hx hxl w
              split at hp
              · rename_i cs hcs
                obtain ⟨l', hf1, hf2⟩ := firstA_sound (P := P) k hx ⟨xl, hxl, Nat.min_le_left _ _⟩ hcs
                have hbase : ∃ b cap, a.eval d = .slice b dl cap := by
                  generalize a.eval d = d' at hd
                  cases hd <;> exact ⟨_, _, rfl⟩
                obtain ⟨bd, cap, hde⟩ := hbase
                have hrun : (execOp a.eval o).run P w = Result.andThen (((match bd with | some a => storeCells a l' | none => pure ()) : Sem Unit).run P w) (fun _ w' => .ok (.value (goInt (Nat.min xl dl))) w') := by
                  rw [hres]
                  cases bd <;> simp [builtin, Builtin.copy_, e1, run_underlying hD, hde, hl, (hty _ _ hte).size, hf1]
                  generalize (storeCells _ l').run P w = r
                  cases r <;> rfl
                have hll := hf2.length
                cases h0 : Nat.min xl dl with
                | zero =>
                  rw [h0] at hp
                  simp only [Option.some.injEq, Prod.mk.injEq] at hp
                  obtain ⟨rfl, rfl⟩ := hp
                  rw [h0] at hcs hrun
                  have : l' = [] := by
                    have : cs = [] := firstA_zero hcs
                    rw [this] at hll
                    exact List.eq_nil_of_length_eq_zero (by simpa using hll)
                  subst this
                  refine ⟨θ, w, .value (goInt 0), goInt 0, ?_, .inl rfl, .int _ _, k, .refl _ _ _⟩
                  rw [hrun]
                  cases bd <;> rfl
                | succ n =>
                  rw [h0] at hp
                  cases base with
                  | none => cases hp
                  | some bo =>
                  obtain ⟨bn, off⟩ := bo
                  simp only at hp
                  split at hp
                  · rename_i old el mo hold
                    split at hp
                    · rename_i lnew hlay hone
                      split at hp
                      · rename_i S1 hset
                        simp only [Option.some.injEq, Prod.mk.injEq] at hp
                        obtain ⟨rfl, rfl⟩ := hp
                        obtain ⟨rfl, hfit⟩ := lay_eq hlay
                        have h64 := (set_eq hset).1
                        have hdl : dl ≠ 0 := fun e => by rw [e] at h0; simp [Nat.min_def] at h0
                        have hb : ∃ b, bd = some ⟨b, off, none⟩ ∧ θ.blk bn = some b := by
                          rw [hde] at hd
                          cases hd
                          case slice => exact ⟨_, rfl, by assumption⟩
                          case sliceS => exact ⟨_, rfl, by assumption⟩
                          case slice0 => exact (hdl rfl).elim
                        obtain ⟨b, rfl, hb⟩ := hb
                        obtain ⟨c, fr, pre, rest, h1, h2, h3, h4, h5⟩ := k.hr.cell hold hb
                        have hl3 := h3.length
                        have hcs' : c.size = pre.length + rest.length := by rw [← Array.length_toList, h2]; simp
                        obtain ⟨w', c', r1, r2, r3, r4, r5, r6, r7, r8, r9⟩ := storeCells_run (P := P) (b := b) l' 0 off w c el fr h1 (h4 h64).2 (hf2.one hone) (by rw [hll]; omega)
                        have hput : c'.toList = Exe.put pre off l' ++ rest := by
                          rw [r8, h2, Nat.add_zero]
                          simp only [Exe.put]
                          rw [List.take_append_of_le_length (by omega), List.drop_append_of_le_length (by rw [hll]; omega)]
                          simp
                        obtain ⟨s1, s2⟩ := k.set hset hold hb r2 r3 r4 r5 r6 r7 ⟨rfl, _, rest, hput, h3.put hf2 hfit, h5⟩ (by
                          obtain ⟨lo, hi⟩ := fr
                          exact (h4 h64).2.imp id (fun h => by rw [r9]; exact h))
                        refine ⟨θ, w', .value (goInt (Nat.min xl dl)), goInt (Nat.min xl dl), ?_, .inl rfl, by rw [h0]; exact .int _ _, s1, s2⟩
                        rw [hrun]
                        simp only [r1, Result.andThen_ok]
                      · cases hp
                    · cases hp
                  · cases hp
              · cases hp
            · cases hp
          · cases hp
        · cases hp
      · cases hp

theorem eff_sound (hty : TyOk P ty) (k : SR θ B S w) (tr : TR θ nt T a) (o : Oper) (hp : effOp ty S T o.op = some (v, S')) : Wrote P a o θ B S w v S' := by
  cases ho : o.op <;> rw [ho] at hp
  case store => exact ef_store hty k tr ho hp
  case mapUpdate => exact ef_mapUpdate hty k tr ho hp
  case convert => exact ef_convert hty k tr ho hp
  case call => exact ef_call hty k tr ho hp
  all_goals simp [effOp, efstore, efmapUpdate, efconvert, efappend, efcopy] at hp
end
end Go.Exe
