/- The executor: append and copy. -/
import Derived.Test.YtlngchhjdnalbaaGreatDoorExeEff2
import Derived.Laws.Append
import Derived.Laws.AppendOwn
set_option linter.unusedVariables false
set_option linter.unusedSimpArgs false
namespace Go.Exe
open Go.RowKit

section
variable {P : Program} {ty : Tr TI} {θ : Th} {B : Nat} {S S' : St} {w : World} {nt : Nat} {T : Tr AV} {a : Act} {v : AV}

/-- The ways of an append, told by the model's own text. -/
theorem append_stay {t xt e : TypeId} {D : TypeDesc} (hD : P.underlying t = some (.slice e)) (hX : P.underlying xt = some D) (hn : ∀ k, D ≠ .int k) {size n len cap : Nat} {base : Option Addr} {x' : Value} {new : List Value} (rt : TypeId)
    (hsz : ∀ w, (sizeOf e).run P w = .ok size w) (hlen : (Builtin.lenOf x').run P w = .ok n w) (hfirst : (Builtin.firstCells size n x').run P w = .ok new.toArray w) (hroom : len + n ≤ cap) :
    (Builtin.append_ #[t, xt] rt #[.slice base len cap, x']).run P w =
      Result.andThen (((match base with | some a => storeCells (a.add (len * size)) new | none => pure ()) : Sem Unit).run P w) (fun _ w' => .ok (.slice base (len + n) cap) w') := by
  have hz : (match D with | .int _ => true | _ => false) = false := by cases D <;> first | rfl | exact (hn _ rfl).elim
  cases base with
  | none => simp [Builtin.append_, run_underlying hD, run_underlying hX, hsz, hz, hlen, hroom, hfirst]
  | some b => simp [Builtin.append_, run_underlying hD, run_underlying hX, hsz, hz, hlen, hroom, hfirst]

theorem append_grow {t xt e : TypeId} {D : TypeDesc} {i : TypeInfo} {z : Value} (hD : P.underlying t = some (.slice e)) (hX : P.underlying xt = some D) (hn : ∀ k, D ≠ .int k) {size n len cap : Nat} {base : Option Addr} {x' : Value} {old new : List Value} (rt : TypeId)
    (hsz : ∀ w, (sizeOf e).run P w = .ok size w) (hi : ∀ w, (typeInfo e).run P w = .ok i w) (hzv : ∀ w, (zeroValue e).run P w = .ok z w) (hlen : (Builtin.lenOf x').run P w = .ok n w) (hfirst : (Builtin.firstCells size n x').run P w.drew = .ok new.toArray w.drew)
    (hold : (Builtin.firstCells size len (.slice base len cap)).run P w.drew = .ok old.toArray w.drew) (hroom : ¬ len + n ≤ cap) (hneed : len + n ≤ 1000000) (hb : i.bytes ≤ 1000000) (hb0 : i.bytes ≠ 0) :
    (Builtin.append_ #[t, xt] rt #[.slice base len cap, x']).run P w =
      .ok (.slice (some ⟨w.heap.size, 0, none⟩) (len + n) (grownCap w (len + n) cap e)) (w.drew.alloc (.cells (old.toArray ++ new.toArray ++ Builtin.zeroCells z.cells (grownCap w (len + n) cap e - (len + n))) e)) := by
  have hz : (match D with | .int _ => true | _ => false) = false := by cases D <;> first | rfl | exact (hn _ rfl).elim
  have h1 : ¬ (Builtin.nextslicecap (len + n) cap * i.bytes > 2 ^ 48) := by
    have h2 := nextslicecap_le (need := len + n) (old := cap) (by omega)
    have : Builtin.nextslicecap (len + n) cap * i.bytes ≤ 2000000 * 1000000 := Nat.mul_le_mul (by omega) hb
    omega
  simp [Builtin.append_, run_underlying hD, run_underlying hX, hsz, hz, hlen, hroom, hfirst, hi, hb0, h1, hold, hzv, Question.forced, newRow, grownCap]
  congr 2
  apply Array.ext'
  simp

theorem ef_append (hty : TyOk P ty) (k : SR θ B S w) {t xt : TypeId} {s x : AV} {s' x' : Value} (hs : VR θ s s') (hx : VR θ x x') (rt : TypeId) (hp : appendA ty S t xt s x = some (v, S')) :
    ∃ θ' w' v', (Builtin.append_ #[t, xt] rt #[s', x']).run P w = .ok v' w' ∧ VR θ' v v' ∧ SR θ' B S' w' ∧ Ext θ S w θ' S' w' := by
  unfold appendA at hp
  split at hp
  · rename_i ti tx base len room more n hti htx hn
    obtain ⟨D, hD, hK⟩ := (hty _ _ hti).und
    obtain ⟨X, hX, hKX⟩ := (hty _ _ htx).und
    split at hp
    · cases hp
    · cases hp
    · rename_i e hk hno1 hno2
      rw [hk] at hK
      obtain rfl := kd_slice hK
      have hXn := kd_notint hKX (fun k e => hno1 k e) (fun e => hno2 e)
      split at hp
      · cases hp
      · rename_i te hte
        have hE := hty _ _ hte
        split at hp
        · cases hp
        · rename_i new hnew
          have hl := fun w => lenA_sound (P := P) hx hn w
          obtain ⟨new', hf1, hf2⟩ := firstA_sound (P := P) k hx ⟨n, hn, Nat.le_refl _⟩ hnew
          split at hp
          · rename_i hroom
            have hroom := Nat.le_of_ble_eq_true hroom
            have hnewlen := hf2.length
            cases n with
            | zero =>
              simp only [Option.some.injEq, Prod.mk.injEq] at hp
              obtain ⟨rfl, rfl⟩ := hp
              have h0 : new' = [] := by
                have : new = [] := by
                  cases hx <;> simp only [lenA, Option.some.injEq, reduceCtorEq] at hn <;> simp only [firstA] at hnew
                  case sliceN => simpa using hnew.symm
                  case slice => split at hnew <;> simp_all [cut, Exe.take]
                  case sliceS => split at hnew <;> simp_all [cut, Exe.take]
                  case slice0 => split at hnew <;> simp_all [cut, Exe.take]
                  case str => simp_all [Exe.take]
                rw [this] at hnewlen
                exact List.eq_nil_of_length_eq_zero (by simpa using hnewlen)
              subst h0
              have hst : ∀ (b : Option Addr), ((match b with | some a => storeCells (a.add (len * te.size)) [] | none => pure ()) : Sem Unit).run P w = .ok () w := by
                intro b; cases b <;> rfl
              have hcap : ∃ b cap, s' = .slice b len cap ∧ len + 0 ≤ cap := by
                cases hs
                case sliceN => exact ⟨_, _, rfl, by omega⟩
                case slice => exact ⟨_, _, rfl, by omega⟩
                case sliceS => exact ⟨_, _, rfl, by omega⟩
                case slice0 => exact ⟨_, _, rfl, by omega⟩
              obtain ⟨b, cap, rfl, hc⟩ := hcap
              refine ⟨θ, w, .slice b len cap, ?_, hs, k, .refl _ _ _⟩
              rw [append_stay hD hX hXn rt hE.size (hl w) hf1 hc, hst]
              rfl
            | succ n =>
              simp only at hp
              split at hp
              · cases hp
              · rename_i bn off
                split at hp
                · rename_i cs el mo hcs
                  split at hp
                  · rename_i cs' hlay hone
                    split at hp
                    · rename_i S1 hset
                      simp only [Option.some.injEq, Prod.mk.injEq] at hp
                      obtain ⟨rfl, rfl⟩ := hp
                      obtain ⟨rfl, hfit⟩ := lay_eq hlay
                      have h64 := (set_eq hset).1
                      have hcap : ∃ b cap, s' = .slice (some ⟨b, off, none⟩) len cap ∧ len + room ≤ cap ∧ θ.blk bn = some b ∧ (∀ θ', θ.Le θ' → VR θ' (.slice (some (bn, off)) (len + (n + 1)) (room - (n + 1)) more) (.slice (some ⟨b, off, none⟩) (len + (n + 1)) cap)) := by
                        cases hs
                        case slice => exact ⟨_, _, rfl, by omega, by assumption, fun θ' hl => .slice _ _ _ _ _ _ (by omega) (hl.blk _ _ (by assumption))⟩
                        case sliceS =>
                          rename_i b xx cp hcp hbk hxx
                          exact ⟨_, _, rfl, by omega, by assumption, fun θ' hl => .sliceS _ _ _ _ _ _ xx _ (by omega) (hl.blk _ _ (by assumption)) (hl.ext _ _ (by assumption))⟩
                        case slice0 => omega
                      obtain ⟨b, cap, rfl, hc, hb, hvr⟩ := hcap
                      obtain ⟨c, fr, pre, rest, h1, h2, h3, h4, h5⟩ := k.hr.cell hcs hb
                      have hl3 := h3.length
                      have hcs' : c.size = pre.length + rest.length := by rw [← Array.length_toList, h2]; simp
                      obtain ⟨w', c', r1, r2, r3, r4, r5, r6, r7, r8, r9⟩ := storeCells_run (P := P) (b := b) new' 0 (off + len * te.size) w c el fr h1 (h4 h64).2 (hf2.one hone) (by rw [hnewlen]; omega)
                      have hput : c'.toList = Exe.put pre (off + len * te.size) new' ++ rest := by
                        rw [r8, h2, Nat.add_zero]
                        simp only [Exe.put]
                        rw [List.take_append_of_le_length (by omega), List.drop_append_of_le_length (by rw [hnewlen]; omega)]
                        simp
                      obtain ⟨s1, s2⟩ := k.set hset hcs hb r2 r3 r4 r5 r6 r7 ⟨rfl, _, rest, hput, h3.put hf2 hfit, h5⟩ (by
                        obtain ⟨lo, hi⟩ := fr
                        exact (h4 h64).2.imp id (fun h => by rw [r9]; exact h))
                      refine ⟨θ, w', .slice (some ⟨b, off, none⟩) (len + (n + 1)) cap, ?_, hvr θ (.refl _), s1, s2⟩
                      rw [append_stay hD hX hXn rt hE.size (hl w) hf1 (by omega)]
                      simp only [addr_add, r1, Result.andThen_ok]
                    · cases hp
                  · cases hp
                · cases hp
          · rename_i hroom
            have hroom : ¬ n ≤ room := fun h => by rw [Nat.ble_eq_true_of_le h] at hroom; cases hroom
            split at hp
            · rename_i old bt hold hneed hbytes hbt
              have hneed := Nat.le_of_ble_eq_true hneed
              have hbytes := Nat.le_of_ble_eq_true hbytes
              obtain ⟨i, hi1, hi2⟩ := hE.info
              obtain ⟨z, hz1, hz2, _, _, hz5⟩ := hE.zero
              have hb0 : i.bytes ≠ 0 := by rw [hi2, hbt]; exact Nat.succ_ne_zero _
              have kd : SR θ B S w.drew := k.congr rfl
              obtain ⟨newd, hfd1, hfd2⟩ := firstA_sound (P := P) kd hx ⟨n, hn, Nat.le_refl _⟩ hnew
              obtain ⟨oldd, hod1, hod2⟩ := firstA_sound (P := P) kd hs ⟨len, rfl, Nat.le_refl _⟩ hold
              have holdlen := hod2.length
              have hnewdlen := hfd2.length
              -- it grows into a row of its own
              have hgrow : ∀ (S0 : St), SR θ B S0 w → Ext θ S w θ S0 w → S0.next = S.next → S0.syms = S.syms → ∀ (bs : Option Addr) (cap : Nat), s' = .slice bs len cap → ¬ len + n ≤ cap →
                  (old ++ new).length = (len + n) * te.size →
                  S0.pushS (.cells (old ++ new) e (some (S.syms, te.size))) (fun S' => some (AV.slice (some (S.next, 0)) (len + n) 0 (some S.syms), S')) = some (v, S') →
                  ∃ θ' w' v', (Builtin.append_ #[t, xt] rt #[s', x']).run P w = .ok v' w' ∧ VR θ' v v' ∧ SR θ' B S' w' ∧ Ext θ S w θ' S' w' := by
                intro S0 k0 x0 e1 e2 bs cap hse hcap hlens hp
                subst hse
                unfold St.pushS at hp
                simp only [fObj_eq, Tr.putK_eq, fN_eq, Option.some.injEq, Prod.mk.injEq] at hp
                obtain ⟨rfl, rfl⟩ := hp
                have hge : len + n ≤ grownCap w (len + n) cap e := grownCap_ge _ _ _ _
                have hrun := append_grow hD hX hXn rt hE.size hi1 hz1 (hl w) hfd1 hod1 hcap hneed (by rw [hi2]; exact hbytes) hb0
                have hlen2 : (oldd ++ newd).length = (len + n) * te.size := by rw [← hlens]; simp [holdlen, hnewdlen]
                obtain ⟨s1, s2⟩ := SR.plus (k := k0) (r := Nat.succ S0.ver) (w' := w.drew.alloc (.cells (oldd.toArray ++ newd.toArray ++ Builtin.zeroCells z.cells (grownCap w (len + n) cap e - (len + n))) e)) (o := .cells (old ++ new) e (some (S0.syms, te.size)))
                  (ob := .cells (oldd.toArray ++ newd.toArray ++ Builtin.zeroCells z.cells (grownCap w (len + n) cap e - (len + n))) e) (y := some (grownCap w (len + n) cap e - (len + n))) (sy := S0.syms + 1) (Nat.le_succ _)
                  (fun s h1 h2 => by omega) rfl rfl rfl rfl
                  ⟨rfl, oldd ++ newd, (Builtin.zeroCells z.cells (grownCap w (len + n) cap e - (len + n))).toList, by simp, (hod2.append hfd2).mono (Th.plus_le (k0.next _ (Nat.le_refl _)) (k0.syms _ (Nat.le_refl _))), fun s y he => by
                    cases he
                    exact ⟨grownCap w (len + n) cap e - (len + n), by simp [Th.plus], by simp [Builtin.zeroCells, hz5]⟩⟩ (.inl rfl)
                refine ⟨_, _, _, hrun, ?_, by rw [← e2]; exact s1, by rw [← e2]; exact x0.trans s2⟩
                rw [← e1, ← e2]
                exact .sliceS _ _ _ _ _ _ (grownCap w (len + n) cap e - (len + n)) _ (by omega) (by simp [Th.plus]) (by simp [Th.plus])
              split at hp
              · cases hp
              · rename_i hlens
                have hlens : old.length + new.length = (len + n) * te.size := Nat.eq_of_beq_eq_true hlens
                have hlens' : (old ++ new).length = (len + n) * te.size := by rw [List.length_append]; exact hlens
                split at hp
                · cases hs
                  case sliceN => exact hgrow S k (.refl _ _ _) rfl rfl _ _ rfl (by omega) hlens' hp
                  case slice => exact hgrow S k (.refl _ _ _) rfl rfl _ _ rfl (by omega) hlens' hp
                · rename_i sy
                  split at hp
                  · rename_i bn hone hroom0
                    split at hp
                    · rename_i cs el sy' zz hcs
                      split at hp
                      · rename_i S1 hchk hset
                        simp only [Bool.and_eq_true] at hchk
                        obtain ⟨⟨⟨hc1, hc2⟩, hc3⟩, hc4⟩ := hchk
                        have hc1 := Nat.eq_of_beq_eq_true hc1
                        have hc2 := Nat.eq_of_beq_eq_true hc2
                        have hc3 := Nat.eq_of_beq_eq_true hc3
                        have hc4 := Nat.eq_of_beq_eq_true hc4
                        subst hc1; subst hc2; subst hc3
                        obtain ⟨h64, hn1, hsy1, _⟩ := set_eq hset
                        have hkill := k.kill hset
                        rw [hsy1, hn1] at hp
                        cases hs
                        case slice0 => exact hgrow S1 hkill.1 hkill.2 hn1 hsy1 _ _ rfl (by omega) hlens' hp
                        case sliceS =>
                          rename_i b x cap hb hcap hx'
                          by_cases hin : len + n ≤ cap
                          · unfold St.pushS at hp
                            simp only [fObj_eq, Tr.putK_eq, fN_eq, Option.some.injEq, Prod.mk.injEq] at hp
                            obtain ⟨rfl, rfl⟩ := hp
                            obtain ⟨c, fr, pre, rest, h1, h2, h3, h4, h5⟩ := k.hr.cell hcs hb
                            obtain ⟨x2, hx2, hrest⟩ := h5 _ _ rfl
                            rw [hx'] at hx2
                            cases hx2
                            have hl3 := h3.length
                            have hcsz : c.size = pre.length + rest.length := by rw [← Array.length_toList, h2]; simp
                            obtain ⟨new', hf1, hf2⟩ := firstA_sound (P := P) k hx ⟨n, hn, Nat.le_refl _⟩ hnew
                            have hnl := hf2.length
                            have hold' : old = cs := by
                              simp only [firstA, hcs] at hold
                              have := take_eq _ _ _ hold
                              rw [this, drop_eq, List.drop_zero, hc4, List.take_length]
                            have hnsz : new.length = n * te.size := by rw [hold', ← hc4, Nat.add_mul] at hlens; omega
                            have hnx : n ≤ x := by omega
                            have hmul : n * te.size ≤ x * te.size := Nat.mul_le_mul_right _ hnx
                            obtain ⟨w', c', r1, r2, r3, r4, r5, r6, r7, r8, r9⟩ := storeCells_run (P := P) (b := b) new' 0 (0 + len * te.size) w c el fr h1 (h4 h64).2 (hf2.one hone) (by rw [hnl]; omega)
                            have hput : c'.toList = (pre ++ new') ++ rest.drop new'.length := by
                              rw [r8, h2]
                              simp only [Exe.put, Nat.add_zero, Nat.zero_add]
                              rw [hc4, ← hl3, List.take_left, List.drop_append, List.drop_of_length_le (by omega)]
                              simp
                            have hle2 : θ.Le (θ.plus S.next b S.syms (some (x - n))) := Th.plus_le (k.next _ (Nat.le_refl _)) (k.syms _ (Nat.le_refl _))
                            obtain ⟨s1, s2⟩ := SR.renew (k := k) (r := Nat.succ S1.ver) (w' := w') (o' := .cells (old ++ new) el (some (S.syms, te.size))) (ob' := .cells c' el fr) (y := some (x - n)) (sy := S.syms + 1) hset hcs hb (Nat.le_succ _) (fun s h1 h2 => by omega) r2 r3 r4 r5 r6 r7
                              ⟨rfl, pre ++ new', rest.drop new'.length, hput, by rw [hold']; exact (h3.append hf2).mono hle2, fun s y he => by
                                cases he
                                refine ⟨x - n, by simp [Th.plus], ?_⟩
                                rw [List.length_drop, hrest, hnl, hnsz, Nat.sub_mul]⟩ (by
                              obtain ⟨lo, hi⟩ := fr
                              exact (h4 h64).2.imp id (fun h => by rw [r9]; exact h))
                            refine ⟨_, w', .slice (some ⟨b, 0, none⟩) (len + n) cap, ?_, ?_, by rw [hsy1]; exact s1, by rw [hsy1]; exact s2⟩
                            · rw [append_stay hD hX hXn rt hE.size (hl w) hf1 hin]
                              simp only [addr_add, r1, Result.andThen_ok]
                            · exact .sliceS _ _ _ _ _ _ (x - n) _ (by omega) (by simp [Th.plus]) (by simp [Th.plus])
                          · exact hgrow S1 hkill.1 hkill.2 hn1 hsy1 _ _ rfl hin hlens' hp
                      · cases hp
                    · cases hp
                  · cases hp
            · cases hp
    · cases hp
  · cases hp
end
end Go.Exe
