/- The executor: each operation that changes nothing. -/
import Derived.Test.YtlngchhjdnalbaaGreatDoorExeBin
set_option linter.unusedVariables false
set_option linter.unusedSimpArgs false
namespace Go.Exe
open Go.RowKit

theorem nat?_eq {v : AV} {n : Nat} (h : nat? v = some n) : ∃ k, v = .int k n := by
  cases v <;> simp only [nat?, reduceCtorEq] at h
  rename_i k m
  cases m <;> simp only [nat?, Option.some.injEq, reduceCtorEq] at h
  subst h
  exact ⟨k, rfl⟩

theorem fillS_sound {θ : Th} {nt : Nat} {T : Tr AV} {a : Act} (k : TR θ nt T a) (hg : ∀ g, g < 64 → θ.blk g = some g) (size : Nat) :
    ∀ (ps : List (Nat × Operand)) (cs r : List AV) (cs' : Array Value), VRs θ cs cs'.toList → fillS size T cs ps = some r →
      ∃ r', Instr.fill (fun i => some (i * size, size)) cs' (ps.map fun x => (x.1, a.eval x.2)) = some r' ∧ VRs θ r r'.toList
  | [], cs, r, cs', hc, h => by simp only [fillS, Option.some.injEq] at h; subst h; exact ⟨cs', rfl, hc⟩
  | (i, x) :: ps, cs, r, cs', hc, h => by
    simp only [fillS] at h
    split at h
    · rename_i v hv
      split at h
      · rename_i hl
        split at h
        · rename_i cs1 h1
          have hx := (ev_sound k hg hv).cells
          have hlen := Nat.eq_of_beq_eq_true hl
          have e1 : (a.eval x).cells.size = size := by rw [← Array.length_toList, hx.length, hlen]
          have hcl := hc.length
          simp only [Array.length_toList] at hcl
          obtain ⟨rfl, h2⟩ := lay_eq h1
          have h3 : i * size + (a.eval x).cells.size ≤ cs'.size := by omega
          obtain ⟨r', h4, h5⟩ := fillS_sound k hg size ps _ r ((a.eval x).cells.zipIdx.foldl (fun cs (y : Value × Nat) => cs.setIfInBounds (i * size + y.2) y.1) cs')
            (by rw [foldl_put _ _ _ h3]; exact hc.put hx h2) h
          refine ⟨r', ?_, h5⟩
          simp only [List.map_cons, Instr.fill]
          rw [if_neg (by simp [e1]; omega)]
          exact h4
        · cases h
      · cases h
    · cases h

theorem rep_row (z : List Value) (n : Nat) : ((Array.range (n * z.length)).map (fun i => z.toArray[i % z.length]!)).toList = (List.range n).flatMap fun _ => z := by
  induction n with
  | zero => simp
  | succ n ih =>
    rw [List.range_succ, List.flatMap_append, ← ih, Array.toList_map, Array.toList_map, Array.toList_range, Array.toList_range, Nat.succ_mul, List.range_add, List.map_append]
    congr 1
    rw [List.map_map]
    have : (List.flatMap (fun _ => z) [n]) = z := by simp
    rw [this]
    apply List.ext_getElem?
    intro j
    rw [List.getElem?_map]
    by_cases h : j < z.length
    · rw [List.getElem?_range h]
      have e : (n * z.length + j) % z.length = j := by rw [Nat.mul_comm, Nat.mul_add_mod]; exact Nat.mod_eq_of_lt h
      simp [e, h]
    · rw [List.getElem?_eq_none (by simp; omega), List.getElem?_eq_none (by omega)]; rfl

theorem repA_sound {θ : Th} {z : List AV} {z' : List Value} (h : VRs θ z z') : ∀ n, VRs θ (repA z n) ((List.range n).flatMap fun _ => z')
  | 0 => .nil
  | n + 1 => by
    rw [List.range_succ_eq_map, List.flatMap_cons, List.flatMap_map]
    exact h.append (repA_sound h n)

theorem bytes_of {θ : Th} : ∀ (cs : List AV) {cs' : List Value} {l : List Nat}, VRs θ cs cs' → bytesOf? cs = some l → cs' = l.map (fun n => Value.int .u8 (n : Nat)) ∧ ∀ n ∈ l, n ≤ 255
  | [], _, _, .nil, h => by simp only [bytesOf?, Option.some.injEq] at h; subst h; simp
  | v :: vs, _, _, .cons _ v' _ vs' hv ht, h => by
    unfold bytesOf? at h
    split at h
    · rename_i e; cases e
    · rename_i n cs e
      cases e
      cases hv
      split at h
      · rename_i l hl hb
        simp only [Option.some.injEq] at h
        subst h
        obtain ⟨h1, h2⟩ := bytes_of vs ht hl
        exact ⟨by rw [h1]; rfl, fun m hm => by rcases List.mem_cons.1 hm with rfl | hm; exact Nat.le_of_ble_eq_true hb; exact h2 m hm⟩
      · cases h
    · cases h

theorem run_bytes {P : Program} {w : World} {a : Addr} {l : List Nat} {len : Nat} (c : Nat) (h : (loadCells a len).run P w = .ok (l.map (fun n => Value.int .u8 (n : Nat))).toArray w) (hl : ∀ n ∈ l, n ≤ 255) :
    ∃ s : ByteArray, (Conv.bytesToString (.slice (some a) len c)).run P w = .ok (.string s) w ∧ s.data.toList.map UInt8.toNat = l := by
  have key : ∀ (f : Value → ByteArray → Sem (ForInStep ByteArray)), (∀ n s, f (.int .u8 n) s = pure (ForInStep.yield (s.push (UInt8.ofNat n.toNat)))) → ∀ (l : List Nat) (acc : ByteArray), (∀ n ∈ l, n ≤ 255) →
      ∃ s : ByteArray, (forIn (l.map (fun n => Value.int .u8 (n : Nat))).toArray acc f).run P w = .ok s w ∧ s.data.toList.map UInt8.toNat = acc.data.toList.map UInt8.toNat ++ l := by
    intro f hf l
    induction l with
    | nil => intro acc _; exact ⟨acc, by simp, by simp⟩
    | cons n l ih =>
      intro acc h
      obtain ⟨s, h1, h2⟩ := ih (acc.push (UInt8.ofNat n)) (fun m hm => h m (List.mem_cons_of_mem _ hm))
      refine ⟨s, ?_, ?_⟩
      · rw [← Array.forIn_toList] at h1 ⊢
        simpa [hf] using h1
      · rw [h2]
        have : n % 256 = n := Nat.mod_eq_of_lt (by have := h n (List.mem_cons_self ..); omega)
        simp [ByteArray.push, this]
  obtain ⟨s, h1, h2⟩ := key (fun c s => match c with
    | .int .u8 n => pure (ForInStep.yield (s.push (UInt8.ofNat n.toNat)))
    | _ => do
      stuck (α := PUnit) "bytesToString: byte expected"
      pure (ForInStep.yield s)) (fun n s => rfl) l .empty hl
  refine ⟨s, ?_, by rw [h2]; rfl⟩
  simp only [Conv.bytesToString, Sem.run_bind, h, Result.andThen_ok]
  refine Eq.trans (congrArg (fun r => Result.andThen r fun a w' => Sem.run P (pure (Value.string a)) w') (Eq.trans ?_ h1)) rfl
  rfl
end Go.Exe
