/- What all the rows share: the tables of the listed variables, a world for the witness, the frame by value. -/
import Derived.Test.YtmgfpjfamdbhbaaDoorCards
import Derived.Test.YtmgfpjfamdbhbaaDoorTie
import Derived.Test.YtmgfpjfamdbhbaaDoorUtf
import Derived.Test.YtmgfpjfamdbhbaaDoorClose
import Derived.WalkKit
import Derived.ProofKit
import Derived.OpenShut
import Derived.Deep.DeepHandedRow
import Derived.Lib.LaidTab
import Derived.Lib.LaidU8T
import Derived.Lib.SmallJoins
namespace Go.Proofs.YtmgfpjfamdbhbaaDoor
open Go.ChangeShapes Go.WideShapes Go.ChangeAt Go.RowKit Go.Joins Go.Deep
open Go.ChangeMaps (open_string shut_string)

theorem own : ownKnob Tryd.prog.godebug = none := by kernel_rfl

/-- the two tables that each row lists -/
theorem tabs_of_laid {W : World} (h : laidMetH Tryd.prog Rows.socketPrintsRow.laid W) : Tabs W := by
  have h1 : Rows.laid_unicode_utf8_acceptRanges = (Lib.acceptData : DataW Unit) := by kernel_rfl
  have h2 : Rows.laid_unicode_utf8_first = Lib.firstData := by kernel_rfl
  have hL : laidMet Tryd.prog [("unicode/utf8.acceptRanges", (Lib.acceptData : DataW Unit)), ("unicode/utf8.first", Lib.firstData)] W := by
    rw [← h1, ← h2]; exact h
  exact utf8Tabs_of_readsT (ρ := Tryd.laysValid_ren) (U8Types.of196 Tryd.laysValid) ⟨by kernel_rfl, by kernel_rfl, by kernel_rfl, by kernel_rfl, by kernel_rfl, by kernel_rfl, by kernel_rfl⟩
    (Lib.laidMet.reads hL (.tail _ (.head _))) (Lib.laidMet.reads hL (.head _))

/-- block g's cells turned -/
def put (h : Array Obj) (g : Nat) (cs : Array Value) : Array Obj := h.modify g fun
  | .cells _ t frozen => .cells cs t frozen
  | o => o
/-- a world for the witness -/
noncomputable def laidWorld (os : Os) : World :=
  let w0 := World.holding Tryd.prog os ⟨#[], #[], []⟩
  let h1 := put w0.heap 0 (Lib.firstTab.map fun z => Value.int .u8 z).toArray
  let h2 := put h1 1 ((List.range 16).flatMap fun i => [Value.int .u8 (Lib.accLo i), Value.int .u8 (Lib.accHi i)]).toArray
  { w0 with heap := h2 }
theorem laid_met (os : Os) (args : Array Value) : laidMet Tryd.prog Rows.socketPrintsRow.laid ((laidWorld os).forCall (fun _ _ => 0) ⟨#[], args, []⟩).memory :=
  laidMet_of_run' 8 (by kernel_rfl) (by kernel_rfl)

/-- a struct of five one-cell fields by value, opened: each field's reading -/
theorem open_five {H : Type} {enc : TypeId × Value → H} {P : Program} {W : World} {base b0 : Nat} {spare : Nat → Bool} {held : Bool} {r : Reach} {t : TypeId} {f0 f1 f2 f3 f4 : Field} {v : Value} {d : DataW H} {p : List MemPlace}
    (hs : P.underlying t = some (.struct #[f0, f1, f2, f3, f4])) (hone : oneCellFields P #[f0, f1, f2, f3, f4] = true) (hC : P.cellsOf t = 5)
    (hv : Value.okWide P W r b0 t v) (h : DataW.Trod enc P W base spare held t v d p) :
    ∃ (c0 c1 c2 c3 c4 : Value) (y0 y1 y2 y3 y4 : DataW H × List MemPlace) (n : Nat), v = .agg #[c0, c1, c2, c3, c4] ∧ (d, p) = (.agg ([y0, y1, y2, y3, y4].map (·.1)), [y0, y1, y2, y3, y4].flatMap (·.2)) ∧
      DataW.trod enc P W base spare held n f0.type [c0] = some y0 ∧ DataW.trod enc P W base spare held n f1.type [c1] = some y1 ∧ DataW.trod enc P W base spare held n f2.type [c2] = some y2 ∧
      DataW.trod enc P W base spare held n f3.type [c3] = some y3 ∧ DataW.trod enc P W base spare held n f4.type [c4] = some y4 := by
  obtain ⟨cs, rfl, hsz⟩ := okWide_struct hs hv
  obtain ⟨l⟩ := cs
  match l, hsz.trans hC with
  | [c0, c1, c2, c3, c4], _ =>
    obtain ⟨fuel, hf⟩ := h
    obtain ⟨xs, n, _, hx, _, hlen, hg⟩ := DataW.trod_struct hs hf
    match xs, hlen with
    | [y0, y1, y2, y3, y4], _ =>
      have at_ : ∀ (i : Nat) (f : Field) (c : Value) (y : DataW H × List MemPlace), #[f0, f1, f2, f3, f4][i]? = some f → [c0, c1, c2, c3, c4][i]? = some c → [y0, y1, y2, y3, y4][i]? = some y → DataW.trod enc P W base spare held n f.type [c] = some y := by
        intro i f c y hf hc hy
        obtain ⟨ho, hk⟩ := hone_of hone i f hf
        have hq := hg i f hf
        rw [ho, hk, hy] at hq
        rw [← hq]
        congr 1
        show [c] = List.take 1 (List.drop i [c0, c1, c2, c3, c4])
        have hi : i < [c0, c1, c2, c3, c4].length := by
          rcases Nat.lt_or_ge i [c0, c1, c2, c3, c4].length with h | h
          · exact h
          · rw [List.getElem?_eq_none h] at hc; cases hc
        rw [List.drop_eq_getElem_cons hi, List.take_succ_cons, List.take_zero]
        rw [List.getElem?_eq_getElem hi] at hc
        rw [Option.some.inj hc]
      exact ⟨c0, c1, c2, c3, c4, y0, y1, y2, y3, y4, n, rfl, hx, at_ 0 _ _ _ rfl rfl rfl, at_ 1 _ _ _ rfl rfl rfl, at_ 2 _ _ _ rfl rfl rfl, at_ 3 _ _ _ rfl rfl rfl, at_ 4 _ _ _ rfl rfl rfl⟩

set_option maxRecDepth 100000 in
/-- a frame by value, opened -/
theorem open_frame {H : Type} {enc : TypeId × Value → H} {W : World} {base b0 : Nat} {spare : Nat → Bool} {held : Bool} {r : Reach} {v : Value} {d : DataW H} {p : List MemPlace}
    (hv : Value.okWide Tryd.prog W r b0 23 v) (h : DataW.Trod enc Tryd.prog W base spare held 23 v d p) :
    ∃ (fin msk : Bool) (op : Int) (mask body : ByteArray), v = .agg #[.bool fin, .bool msk, .int .i64 op, .string mask, .string body] ∧
      d = .agg [.lit (.bool fin), .lit (.bool msk), .lit (.int .i64 op), .lit (.string mask.data.toList), .lit (.string body.data.toList)] ∧ p = [] ∧
      (Lit.int .i64 op).wf = true ∧ mask.size ≤ maxLen ∧ body.size ≤ maxLen := by
  obtain ⟨c0, c1, c2, c3, c4, y0, y1, y2, y3, y4, n, rfl, hx, h0, h1, h2, h3, h4⟩ := open_five Tryd.underlying23 (by kernel_rfl) (by kernel_rfl) hv h
  obtain ⟨fin, e0, rfl⟩ := DataW.trod_bool Tryd.underlying4 h0
  obtain ⟨msk, e1, rfl⟩ := DataW.trod_bool Tryd.underlying4 h1
  obtain ⟨op, e2, rfl, hw⟩ := DataW.trod_int Tryd.underlying3 h2
  obtain ⟨mask, e3, rfl, hm⟩ := DataW.trod_string Tryd.underlying9 h3
  obtain ⟨body, e4, rfl, hb⟩ := DataW.trod_string Tryd.underlying9 h4
  simp only [List.cons.injEq, and_true] at e0 e1 e2 e3 e4
  subst e0 e1 e2 e3 e4
  simp only [Prod.mk.injEq] at hx
  exact ⟨fin, msk, op, mask, body, rfl, hx.1, hx.2, hw, hm, hb⟩
set_option maxRecDepth 100000 in
/-- a frame by value reads so in whatever world -/
theorem shut_frame {H : Type} {enc : TypeId × Value → H} {W : World} {base : Nat} {spare : Nat → Bool} {held : Bool} {fin msk : Bool} {op : Int} {mask body : ByteArray} (hw : (Lit.int .i64 op).wf = true) (hm : mask.size ≤ maxLen) (hb : body.size ≤ maxLen) :
    DataW.Trod enc Tryd.prog W base spare held 23 (.agg #[.bool fin, .bool msk, .int .i64 op, .string mask, .string body])
      (.agg [.lit (.bool fin), .lit (.bool msk), .lit (.int .i64 op), .lit (.string mask.data.toList), .lit (.string body.data.toList)]) [] := by
  have c4 : Tryd.prog.cellsOf 4 = 1 := by kernel_rfl
  have c3 : Tryd.prog.cellsOf 3 = 1 := by kernel_rfl
  have c9 : Tryd.prog.cellsOf 9 = 1 := by kernel_rfl
  have c23 : Tryd.prog.cellsOf 23 = 5 := by kernel_rfl
  refine ⟨2, ?_⟩
  have := trod_struct_mk (enc := enc) (P := Tryd.prog) (w := W) (base := base) (spare := spare) (held := held) (n := 1) (cs := [.bool fin, .bool msk, .int .i64 op, .string mask, .string body])
    (xs := [(.lit (.bool fin), []), (.lit (.bool msk), []), (.lit (.int .i64 op), []), (.lit (.string mask.data.toList), []), (.lit (.string body.data.toList), [])]) Tryd.underlying23 (by rw [c23]; rfl)
    (by simp [c4, c3, c9, DataW.trod, Tryd.underlying4, Tryd.underlying3, Tryd.underlying9, hw, hm, hb])
  exact this
end Go.Proofs.YtmgfpjfamdbhbaaDoor
