/- That a program's types are laid out, in parts. -/
import GoSem.ClaimDataLaid
set_option linter.unusedVariables false
set_option linter.unusedSimpArgs false
namespace Go.Reach

def fine (P : Program) (a n : Nat) : Bool := (List.range' a n).all (rowFine P)
theorem fine_split {P : Program} {a m n : Nat} (h1 : fine P a m = true) (h2 : fine P (a + m) n = true) : fine P a (m + n) = true := by
  unfold fine at *
  rw [List.all_eq_true] at *
  intro x hx
  rw [List.mem_range'_1] at hx
  by_cases hlt : x < a + m
  · exact h1 x (by rw [List.mem_range'_1]; omega)
  · exact h2 x (by rw [List.mem_range'_1]; omega)
theorem laidOut_of {P : Program} {n : Nat} (hn : P.types.size = n) (h : fine P 0 n = true) (hg : P.globals.all (fun g => decide (g.type < P.types.size)) = true) (hf : P.funcs.all (fun f => f.params.all fun t => decide (t < P.types.size)) = true) : laidOutB P = true := by
  have e : (List.range P.types.size).all (rowFine P) = true := by
    rw [hn, List.range_eq_range']
    exact h
  unfold laidOutB
  rw [e, hg, hf]
  rfl
end Go.Reach
