/- What a function reaches, by a table of who calls whom: the same list as the model's own walk, at less cost. -/
import GoSem.ClaimFn
import GoSem.ClaimFollow
import GoSem.ClaimGoes
set_option linter.unusedVariables false
set_option linter.unusedSimpArgs false
namespace Go.Reach

/-- The model's walk over whatever table. -/
def walkL (ld : FuncId → List FuncId) : Nat → List FuncId → List FuncId → List FuncId
  | 0, _, seen => seen.reverse
  | _, [], seen => seen.reverse
  | n + 1, f :: todo, seen => if seen.contains f then walkL ld n todo seen else walkL ld n (ld f ++ todo) (f :: seen)

def lead (P : Program) (f : FuncId) : List FuncId := (P.funcs[f]?).elim [] P.leadsTo

theorem via_eq (P : Program) : ∀ (n : Nat) (todo seen : List FuncId), P.closureVia n todo seen = walkL (lead P) n todo seen
  | 0, _, _ => by simp only [Program.closureVia, walkL]
  | n + 1, [], _ => by simp only [Program.closureVia, walkL]
  | n + 1, f :: todo, seen => by
    simp only [Program.closureVia, walkL]
    split
    · exact via_eq P n todo seen
    · exact via_eq P n _ _

/-- The walk by a mask: which were seen is one number. -/
def walkM (tb : FuncId → List FuncId) : Nat → List FuncId → Nat → List FuncId → Option (List FuncId)
  | _, [], _, seen => some seen.reverse
  | 0, _ :: _, _, _ => none
  | n + 1, f :: todo, mask, seen => match Nat.testBit mask f with
    | true => walkM tb n todo mask seen
    | false => walkM tb n (tb f ++ todo) (Nat.lor mask (Nat.shiftLeft 1 f)) (f :: seen)

theorem walkM_has {tb : FuncId → List FuncId} : ∀ {n : Nat} {todo : List FuncId} {mask : Nat} {seen r : List FuncId}, walkM tb n todo mask seen = some r → ∀ f ∈ seen, f ∈ r
  | n, [], m, seen, r, h, f, hf => by
    have : walkM tb n [] m seen = some seen.reverse := by cases n <;> rfl
    rw [this] at h
    cases h
    simpa using hf
  | 0, _ :: _, _, _, _, h, _, _ => by cases h
  | n + 1, g :: todo, mask, seen, r, h, f, hf => by
    simp only [walkM] at h
    split at h
    · exact walkM_has h f hf
    · exact walkM_has h f (List.mem_cons_of_mem _ hf)

theorem walkM_eq {tb ld : FuncId → List FuncId} : ∀ {k : Nat} {todo : List FuncId} {mask : Nat} {seen r : List FuncId}, walkM tb k todo mask seen = some r → (∀ x, Nat.testBit mask x = seen.contains x) → (∀ f ∈ r, ld f = tb f) →
    ∀ n, k ≤ n → walkL ld n todo seen = r
  | k, [], m, seen, r, h, _, _, n, _ => by
    have : walkM tb k [] m seen = some seen.reverse := by cases k <;> rfl
    rw [this] at h
    cases h
    cases n <;> rfl
  | 0, _ :: _, _, _, _, h, _, _, _, _ => by cases h
  | k + 1, f :: todo, mask, seen, r, h, hm, hl, n, hn => by
    obtain ⟨n, rfl⟩ : ∃ m, n = m + 1 := ⟨n - 1, by omega⟩
    simp only [walkM] at h
    simp only [walkL]
    split at h
    · rename_i hb
      rw [hm] at hb
      rw [if_pos hb]
      exact walkM_eq h hm hl n (by omega)
    · rename_i hb
      rw [hm] at hb
      rw [if_neg (by rw [hb]; exact Bool.false_ne_true), hl f (walkM_has h f (by simp))]
      refine walkM_eq h (fun x => ?_) hl n (by omega)
      show (mask ||| (1 <<< f)).testBit x = _
      rw [Nat.testBit_or, hm, Nat.testBit_shiftLeft, List.contains_cons]
      by_cases hx : x = f
      · subst hx
        simp
      · have h1 : (x == f) = false := by simpa using hx
        rw [h1]
        have : (decide (x ≥ f) && Nat.testBit 1 (x - f)) = false := by
          by_cases hxf : x ≥ f
          · have : x - f ≠ 0 := by omega
            obtain ⟨d, hd⟩ : ∃ d, x - f = d + 1 := ⟨x - f - 1, by omega⟩
            rw [hd, Nat.testBit_succ]
            simp
          · simp [hxf]
        rw [this]
        simp

def eqL : List Nat → List Nat → Bool
  | [], [] => true
  | a :: x, b :: y => match Nat.beq a b with
    | true => eqL x y
    | false => false
  | _, _ => false
theorem eqL_eq : ∀ {a b : List Nat}, eqL a b = true → a = b
  | [], [], _ => rfl
  | [], _ :: _, h => by cases h
  | _ :: _, [], h => by cases h
  | x :: a, y :: b, h => by
    simp only [eqL] at h
    split at h
    · rename_i hb
      rw [Nat.eq_of_beq_eq_true hb, eqL_eq h]
    · cases h

/-- A table in rows: the n-th row, from a number on. -/
def rowAt : List (List FuncId) → Nat → List FuncId
  | [], _ => []
  | x :: _, 0 => x
  | _ :: l, n + 1 => rowAt l n

/-- The functions of a list lead where the table says. -/
def leads (P : Program) (tb : FuncId → List FuncId) (L : List FuncId) : Bool := L.all fun f => eqL (lead P f) (tb f)
theorem leads_append {P : Program} {tb : FuncId → List FuncId} {a b : List FuncId} (h1 : leads P tb a = true) (h2 : leads P tb b = true) : leads P tb (a ++ b) = true := by
  unfold leads at *
  rw [List.all_append, h1, h2]
  rfl

/-- How many steps there may be: a part of the functions. -/
def many (P : Program) (l : List Func) : Nat := (l.map fun g => (P.leadsTo g).length + 1).sum
theorem many_split (P : Program) (l : List Func) (n : Nat) : many P l = many P (l.take n) + many P (l.drop n) := by
  unfold many
  rw [← List.sum_append, ← List.map_append, List.take_append_drop]

theorem closure_of {P : Program} {f k : Nat} {tb : FuncId → List FuncId} {r : List FuncId} (h : walkM tb k [f] 0 [] = some r) (hl : leads P tb r = true) (hk : k ≤ 1 + many P P.funcs.toList) : P.closure f = r := by
  unfold Program.closure
  rw [via_eq]
  refine walkM_eq h (fun x => by simp) (fun g hg => eqL_eq ?_) _ hk
  unfold leads at hl
  exact List.all_eq_true.1 hl g hg

/-! ### The facts of a row, once it is known what is reached -/
theorem inPlace_eq (P : Program) (f : FuncId) : P.inPlace f = P.inPlaceOf (P.closure f) := rfl
theorem varsNamed_eq (P : Program) (f : FuncId) : P.varsNamed f = P.varsOf (P.closure f) := rfl
def gl (P : Program) (L : List FuncId) : List Nat := L.flatMap fun g => ((P.funcs[g]?).bind (·.body)).elim [] Code.globalsNamed
theorem gl_append (P : Program) (a b : List FuncId) : gl P (a ++ b) = gl P a ++ gl P b := List.flatMap_append
theorem varsOf_eq (P : Program) (L : List FuncId) : P.varsOf L = ((gl P L).eraseDups.filterMap (fun g => (P.globals[g]?).map (·.name)) ++
   L.filterMap fun g => (P.funcs[g]?).bind fun fn => if fn.body.isNone then entryReads.lookup fn.name else none).eraseDups := rfl
theorem unfollowed_of {P : Program} {f : FuncId} (h : ((P.closure f).any fun g => (P.funcs[g]?).any fun fn => match fn.body with | some c => c.unfollowed | none => entryCalls fn) = true) : P.unfollowed f = true := h
theorem recurses_of {P : Program} {f : FuncId} (h : P.unfollowed f = true) : P.recurses f = true := by
  unfold Program.recurses
  rw [h]
  rfl
theorem any_split (l : List Func) (n : Nat) (h1 : (l.take n).any Func.goes = false) (h2 : (l.drop n).any Func.goes = false) : l.any Func.goes = false := by
  rw [← List.take_append_drop n l, List.any_append, h1, h2]
  rfl
theorem goes_false {P : Program} (f : FuncId) (h : P.funcs.toList.any Func.goes = false) : P.goes f = false := by
  have hq : ∀ fn ∈ P.funcs.toList, fn.goes = false := by
    intro fn hf
    cases hg : fn.goes with
    | false => rfl
    | true => rw [List.any_eq_true.2 ⟨fn, hf, hg⟩] at h; cases h
  have h1 : ((P.closure f).any fun g => (P.funcs[g]?).any Func.goes) = false := by
    rw [List.any_eq_false]
    intro g _ hx
    cases hf : P.funcs[g]? with
    | none => rw [hf] at hx; simp at hx
    | some fn =>
      rw [hf] at hx
      have hm : fn ∈ P.funcs.toList := by
        obtain ⟨hl, he⟩ := Array.getElem?_eq_some_iff.1 hf
        rw [← he]
        exact Array.getElem_mem_toList hl
      have := hq fn hm
      simp [this] at hx
  unfold Program.goes
  rw [h1, ← Array.any_toList, h]
  simp
end Go.Reach
