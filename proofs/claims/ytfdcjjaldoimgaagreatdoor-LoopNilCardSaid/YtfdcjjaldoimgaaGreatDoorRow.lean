/- What the row of LoopNil gives: the table stands; and a world for the witness. -/
import Derived.Test.YtfdcjjaldoimgaaGreatDoorCards
import Derived.Test.YtfdcjjaldoimgaaGreatDoorTieZ
import Derived.Test.YtfdcjjaldoimgaaGreatDoorLaw
import Derived.WalkKit
import Derived.ProofKit
import Derived.OpenShut
import Derived.Deep.DeepHandedRow
import Derived.Lib.LaidTab
import Derived.LaidSub
import Derived.LaidHandle
import Derived.Lay
import Derived.Lib.SmallJoins
namespace Go.Proofs.YtfdcjjaldoimgaaGreatDoor
open Go.ChangeShapes Go.WideShapes Go.ChangeAt Go.RowKit Go.Joins Go.Deep
open Go.ChangeMaps (open_string shut_string)

theorem own : ownKnob Tryz.prog.godebug = none := by kernel_rfl

theorem signs_of_laid {W : World} (h : laidMetH Tryz.prog Rows.loopNilRow.laid W) : Lib.TabIs Tryz.prog W "turnpike/octet.signs" .u32 [0, 67071226, 3355443198, 1476395007] := by
  have h1 := h.filter (fun x => x.1 == "turnpike/octet.signs")
  have e : (Rows.loopNilRow.laid.filter fun x => x.1 == "turnpike/octet.signs") = [("turnpike/octet.signs", (Lib.tabData .u32 [0, 67071226, 3355443198, 1476395007] : DataW Unit))] := by kernel_rfl
  rw [e] at h1
  have h2 : laidMet Tryz.prog [("turnpike/octet.signs", (Lib.tabData .u32 [0, 67071226, 3355443198, 1476395007] : DataW Unit))] W := h1
  exact Lib.tabIs_of_head (g := 0) (t := 393) (e := 392) (n := 4) (by kernel_rfl) (by kernel_rfl) Tryz.underlying393 Tryz.underlying392 (by kernel_rfl) (by kernel_rfl) h2

theorem stands_of_laid {W : World} (h : laidMetH Tryz.prog Rows.loopNilRow.laid W) (hs : W.ShapedOpen Tryz.prog) : Stands W := by
  obtain ⟨cs, h1, _, _⟩ := hs.1 0 (Array.replicate 4 (.int .u32 0)) 393 (of_decide_eq_true (by kernel_rfl)) (by kernel_rfl)
  have h2 := signs_of_laid h
  unfold Lib.TabIs World.var? at h2
  rw [show Tryz.prog.globalNamed "turnpike/octet.signs" = some 0 by kernel_rfl] at h2
  simp only [Option.bind_some, h1, Option.some.injEq] at h2
  subst h2
  exact ⟨_, _, [], h1, rfl⟩

/-- The listed variables but for the handle. -/
noncomputable def plainVars : List (String × DataW Unit) := Rows.loopNilRow.laid.filter fun x => x.2.handleName?.isNone

/-- A world for the witness. -/
noncomputable def laidWorld (os : Os) : World :=
  let w0 := World.holding Tryz.prog os ⟨#[], #[], []⟩
  let w1 : World := { w0 with heap := w0.heap.modify 6 fun
      | .cells _ t frozen => .cells #[.iface 601 (.agg #[typeHandle Tryz.prog 295])] t frozen
      | o => o }
  w1.layVars Tryz.prog plainVars

theorem laidWorld_met (os : Os) (args : Array Value) : laidMetH Tryz.prog Rows.loopNilRow.laid ((laidWorld os).forCall (fun _ _ => 0) ⟨#[], args, []⟩).memory :=
  laidMetH_of_parts (laidMet_of_run' 8 (by kernel_rfl) (by kernel_rfl)) (by kernel_rfl)
/-- a struct of four one-cell fields by value, opened: each field's reading -/
theorem open_four {H : Type} {enc : TypeId × Value → H} {P : Program} {W : World} {base b0 : Nat} {spare : Nat → Bool} {held : Bool} {r : Reach} {t : TypeId} {f0 f1 f2 f3 : Field} {v : Value} {d : DataW H} {p : List MemPlace}
    (hs : P.underlying t = some (.struct #[f0, f1, f2, f3])) (hone : oneCellFields P #[f0, f1, f2, f3] = true) (hC : P.cellsOf t = 4)
    (hv : Value.okWide P W r b0 t v) (h : DataW.Trod enc P W base spare held t v d p) :
    ∃ (c0 c1 c2 c3 : Value) (y0 y1 y2 y3 : DataW H × List MemPlace) (n : Nat), v = .agg #[c0, c1, c2, c3] ∧ (d, p) = (.agg ([y0, y1, y2, y3].map (·.1)), [y0, y1, y2, y3].flatMap (·.2)) ∧
      DataW.trod enc P W base spare held n f0.type [c0] = some y0 ∧ DataW.trod enc P W base spare held n f1.type [c1] = some y1 ∧ DataW.trod enc P W base spare held n f2.type [c2] = some y2 ∧
      DataW.trod enc P W base spare held n f3.type [c3] = some y3 := by
  obtain ⟨cs, rfl, hsz⟩ := okWide_struct hs hv
  obtain ⟨l⟩ := cs
  match l, hsz.trans hC with
  | [c0, c1, c2, c3], _ =>
    obtain ⟨fuel, hf⟩ := h
    obtain ⟨xs, n, _, hx, _, hlen, hg⟩ := DataW.trod_struct hs hf
    match xs, hlen with
    | [y0, y1, y2, y3], _ =>
      have at_ : ∀ (i : Nat) (f : Field) (c : Value) (y : DataW H × List MemPlace), #[f0, f1, f2, f3][i]? = some f → [c0, c1, c2, c3][i]? = some c → [y0, y1, y2, y3][i]? = some y → DataW.trod enc P W base spare held n f.type [c] = some y := by
        intro i f c y hf hc hy
        obtain ⟨ho, hk⟩ := hone_of hone i f hf
        have hq := hg i f hf
        rw [ho, hk, hy] at hq
        rw [← hq]
        congr 1
        show [c] = List.take 1 (List.drop i [c0, c1, c2, c3])
        have hi : i < [c0, c1, c2, c3].length := by
          rcases Nat.lt_or_ge i [c0, c1, c2, c3].length with h | h
          · exact h
          · rw [List.getElem?_eq_none h] at hc; cases hc
        rw [List.drop_eq_getElem_cons hi, List.take_succ_cons, List.take_zero]
        rw [List.getElem?_eq_getElem hi] at hc
        rw [Option.some.inj hc]
      exact ⟨c0, c1, c2, c3, y0, y1, y2, y3, n, rfl, hx, at_ 0 _ _ _ rfl rfl rfl, at_ 1 _ _ _ rfl rfl rfl, at_ 2 _ _ _ rfl rfl rfl, at_ 3 _ _ _ rfl rfl rfl⟩

set_option maxRecDepth 100000 in
/-- an event by value, opened -/
theorem open_event {H : Type} {enc : TypeId × Value → H} {W : World} {base b0 : Nat} {spare : Nat → Bool} {held : Bool} {r : Reach} {v : Value} {d : DataW H} {p : List MemPlace}
    (hv : Value.okWide Tryz.prog W r b0 23 v) (h : DataW.Trod enc Tryz.prog W base spare held 23 v d p) :
    ∃ (k c n : Int) (s : ByteArray), v = .agg #[.int .i64 k, .int .i64 c, .int .i64 n, .string s] ∧
      d = .agg [.lit (.int .i64 k), .lit (.int .i64 c), .lit (.int .i64 n), .lit (.string s.data.toList)] ∧ p = [] ∧
      (Lit.int .i64 k).wf = true ∧ (Lit.int .i64 c).wf = true ∧ (Lit.int .i64 n).wf = true ∧ s.size ≤ maxLen := by
  obtain ⟨c0, c1, c2, c3, y0, y1, y2, y3, n, rfl, hx, h0, h1, h2, h3⟩ := open_four Tryz.underlying23 (by kernel_rfl) (by kernel_rfl) hv h
  obtain ⟨k, e0, rfl, w0⟩ := DataW.trod_int Tryz.underlying3 h0
  obtain ⟨c, e1, rfl, w1⟩ := DataW.trod_int Tryz.underlying3 h1
  obtain ⟨m, e2, rfl, w2⟩ := DataW.trod_int Tryz.underlying3 h2
  obtain ⟨s, e3, rfl, hs⟩ := DataW.trod_string Tryz.underlying9 h3
  simp only [List.cons.injEq, and_true] at e0 e1 e2 e3
  subst e0 e1 e2 e3
  simp only [Prod.mk.injEq] at hx
  exact ⟨k, c, m, s, rfl, hx.1, hx.2, w0, w1, w2, hs⟩
set_option maxRecDepth 100000 in
/-- an event by value reads so in whatever world -/
theorem shut_event {H : Type} {enc : TypeId × Value → H} {W : World} {base : Nat} {spare : Nat → Bool} {held : Bool} {k c n : Int} {s : ByteArray} (w0 : (Lit.int .i64 k).wf = true) (w1 : (Lit.int .i64 c).wf = true) (w2 : (Lit.int .i64 n).wf = true) (hs : s.size ≤ maxLen) :
    DataW.Trod enc Tryz.prog W base spare held 23 (.agg #[.int .i64 k, .int .i64 c, .int .i64 n, .string s])
      (.agg [.lit (.int .i64 k), .lit (.int .i64 c), .lit (.int .i64 n), .lit (.string s.data.toList)]) [] := by
  have c3 : Tryz.prog.cellsOf 3 = 1 := by kernel_rfl
  have c9 : Tryz.prog.cellsOf 9 = 1 := by kernel_rfl
  have c23 : Tryz.prog.cellsOf 23 = 4 := by kernel_rfl
  refine ⟨2, ?_⟩
  have := trod_struct_mk (enc := enc) (P := Tryz.prog) (w := W) (base := base) (spare := spare) (held := held) (n := 1) (cs := [.int .i64 k, .int .i64 c, .int .i64 n, .string s])
    (xs := [(.lit (.int .i64 k), []), (.lit (.int .i64 c), []), (.lit (.int .i64 n), []), (.lit (.string s.data.toList), [])]) Tryz.underlying23 (by rw [c23]; rfl)
    (by simp [c3, c9, DataW.trod, Tryz.underlying3, Tryz.underlying9, w0, w1, w2, hs])
  exact this
end Go.Proofs.YtfdcjjaldoimgaaGreatDoor
