/- What the row of AppNil gives: the two tables stand; and a world for the witness. -/
import Derived.Test.YtjlgdeeahcfcgaaGreatDoorCards
import Derived.Test.YtjlgdeeahcfcgaaGreatDoorTieZ
import Derived.Test.YtjlgdeeahcfcgaaGreatDoorLawC
import Derived.WalkKit
import Derived.ProofKit
import Derived.OpenShut
import Derived.Deep.DeepHandedRow
import Derived.Lib.LaidTab
import Derived.LaidSub
import Derived.LaidHandle
import Derived.Lay
import Derived.Lib.SmallJoins
import Derived.Carry
namespace Go.Proofs.YtjlgdeeahcfcgaaGreatDoor
open Go.ChangeShapes Go.WideShapes Go.ChangeAt Go.RowKit Go.Joins Go.Deep

theorem own : ownKnob Tryz.prog.godebug = none := by kernel_rfl

theorem signs_of_laid {W : World} (h : laidMetH Tryz.prog Rows.appNilRow.laid W) : Lib.TabIs Tryz.prog W "turnpike/octet.signs" .u32 [0, 67071226, 3355443198, 1476395007] := by
  have h1 := h.filter (fun x => x.1 == "turnpike/octet.signs")
  have e : (Rows.appNilRow.laid.filter fun x => x.1 == "turnpike/octet.signs") = [("turnpike/octet.signs", (Lib.tabData .u32 [0, 67071226, 3355443198, 1476395007] : DataW Unit))] := by kernel_rfl
  rw [e] at h1
  have h2 : laidMet Tryz.prog [("turnpike/octet.signs", (Lib.tabData .u32 [0, 67071226, 3355443198, 1476395007] : DataW Unit))] W := h1
  exact Lib.tabIs_of_head (g := 2) (t := 437) (e := 436) (n := 4) (by kernel_rfl) (by kernel_rfl) Tryz.underlying437 Tryz.underlying436 (by kernel_rfl) (by kernel_rfl) h2

theorem pow_of_laid {W : World} (h : laidMetH Tryz.prog Rows.appNilRow.laid W) : Lib.TabIs Tryz.prog W "internal/strconv.uint64pow10" .u64 [1, 10, 100, 1000, 10000, 100000, 1000000, 10000000, 100000000, 1000000000, 10000000000, 100000000000, 1000000000000, 10000000000000, 100000000000000, 1000000000000000, 10000000000000000, 100000000000000000, 1000000000000000000, 10000000000000000000] := by
  have h1 := h.filter (fun x => x.1 == "internal/strconv.uint64pow10")
  have e : (Rows.appNilRow.laid.filter fun x => x.1 == "internal/strconv.uint64pow10") = [("internal/strconv.uint64pow10", (Lib.tabData .u64 [1, 10, 100, 1000, 10000, 100000, 1000000, 10000000, 100000000, 1000000000, 10000000000, 100000000000, 1000000000000, 10000000000000, 100000000000000, 1000000000000000, 10000000000000000, 100000000000000000, 1000000000000000000, 10000000000000000000] : DataW Unit))] := by kernel_rfl
  rw [e] at h1
  have h2 : laidMet Tryz.prog [("internal/strconv.uint64pow10", (Lib.tabData .u64 [1, 10, 100, 1000, 10000, 100000, 1000000, 10000000, 100000000, 1000000000, 10000000000, 100000000000, 1000000000000, 10000000000000, 100000000000000, 1000000000000000, 10000000000000000, 100000000000000000, 1000000000000000000, 10000000000000000000] : DataW Unit))] W := h1
  exact Lib.tabIs_of_head (g := 4) (t := 515) (e := 461) (n := 20) (by kernel_rfl) (by kernel_rfl) Tryz.underlying515 Tryz.underlying461 (by kernel_rfl) (by kernel_rfl) h2

theorem stands_of_laid {W : World} (h : laidMetH Tryz.prog Rows.appNilRow.laid W) (hs : W.ShapedOpen Tryz.prog) : Stands W := by
  obtain ⟨cs, h1, _, _⟩ := hs.1 2 (Array.replicate 4 (.int .u32 0)) 437 (of_decide_eq_true (by kernel_rfl)) (by kernel_rfl)
  obtain ⟨cs', h1', _, _⟩ := hs.1 4 (Array.replicate 20 (.int .u64 0)) 515 (of_decide_eq_true (by kernel_rfl)) (by kernel_rfl)
  have h2 := signs_of_laid h
  unfold Lib.TabIs World.var? at h2
  rw [show Tryz.prog.globalNamed "turnpike/octet.signs" = some 2 by kernel_rfl] at h2
  simp only [Option.bind_some, h1, Option.some.injEq] at h2
  have h3 := pow_of_laid h
  unfold Lib.TabIs World.var? at h3
  rw [show Tryz.prog.globalNamed "internal/strconv.uint64pow10" = some 4 by kernel_rfl] at h3
  simp only [Option.bind_some, h1', Option.some.injEq] at h3
  subst h2
  subst h3
  exact ⟨⟨_, _, h1, rfl⟩, ⟨_, _, h1', rfl⟩⟩

/-- The listed variables but for the handle. -/
noncomputable def plainVars : List (String × DataW Unit) := Rows.appNilRow.laid.filter fun x => x.2.handleName?.isNone

/-- A world for the witness. -/
noncomputable def laidWorld (os : Os) : World :=
  let w0 := World.holding Tryz.prog os ⟨#[], #[], []⟩
  let w1 : World := { w0 with heap := w0.heap.modify 5 fun
      | .cells _ t frozen => .cells #[.iface 569 (.agg #[typeHandle Tryz.prog 199])] t frozen
      | o => o }
  w1.layVars Tryz.prog plainVars

theorem laidWorld_met (os : Os) (args : Array Value) : laidMetH Tryz.prog Rows.appNilRow.laid ((laidWorld os).forCall (fun _ _ => 0) ⟨#[], args, []⟩).memory :=
  laidMetH_of_parts (laidMet_of_run' 8 (by kernel_rfl) (by kernel_rfl)) (by kernel_rfl)

/-- a struct of one-cell fields by value, opened: each field's reading -/
theorem open_fields {H : Type} {enc : TypeId × Value → H} {P : Program} {W : World} {base b0 : Nat} {spare : Nat → Bool} {held : Bool} {r : Reach} {t : TypeId} {fs : Array Field} {v : Value} {d : DataW H} {p : List MemPlace}
    (hs : P.underlying t = some (.struct fs)) (hone : oneCellFields P fs = true) (hC : P.cellsOf t = fs.size)
    (hv : Value.okWide P W r b0 t v) (h : DataW.Trod enc P W base spare held t v d p) :
    ∃ cs : Array Value, v = .agg cs ∧ cs.size = fs.size ∧ ∀ (i : Nat) (f : Field) (c : Value), fs[i]? = some f → cs[i]? = some c → ∃ n y, DataW.trod enc P W base spare held n f.type [c] = some y := by
  obtain ⟨cs, rfl, hsz⟩ := okWide_struct hs hv
  obtain ⟨fuel, hf⟩ := h
  obtain ⟨xs, n, _, hx, _, hlen, hg⟩ := DataW.trod_struct hs hf
  refine ⟨cs, rfl, hsz.trans hC, fun i f c hfi hc => ?_⟩
  obtain ⟨ho, hk⟩ := hone_of hone i f hfi
  have hq := hg i f hfi
  rw [ho, hk] at hq
  have hi : i < xs.length := by
    rw [hlen]
    exact (Array.getElem?_eq_some_iff.1 hfi).1
  rw [List.getElem?_eq_getElem hi] at hq
  have e : List.take 1 (List.drop i (Value.agg cs).cells.toList) = [c] := by
    show List.take 1 (List.drop i cs.toList) = [c]
    have hc' : cs.toList[i]? = some c := by rw [Array.getElem?_toList]; exact hc
    obtain ⟨hlt, he⟩ := List.getElem?_eq_some_iff.1 hc'
    rw [List.drop_eq_getElem_cons hlt, List.take_succ_cons, List.take_zero, he]
  rw [e] at hq
  exact ⟨n, _, hq⟩

theorem slice_val {H : Type} {enc : TypeId × Value → H} {P : Program} {W : World} {base : Nat} {spare : Nat → Bool} {held : Bool} {t e : TypeId} {n : Nat} {c : Value} {y : DataW H × List MemPlace} (ht : P.underlying t = some (.slice e)) (h : DataW.trod enc P W base spare held n t [c] = some y) : ∃ a l m, c = .slice a l m := by
  rcases DataW.trod_slice ht h with ⟨hc, _⟩ | ⟨a, l, m, _, _, _, _, hc, _⟩
  · simp only [List.cons.injEq, and_true] at hc; exact ⟨_, _, _, hc⟩
  · simp only [List.cons.injEq, and_true] at hc; exact ⟨_, _, _, hc⟩

set_option maxRecDepth 100000 in
/-- a request by value -/
theorem open_request {H : Type} {enc : TypeId × Value → H} {W : World} {base b0 : Nat} {spare : Nat → Bool} {held : Bool} {r : Reach} {v : Value} {d : DataW H} {p : List MemPlace}
    (hv : Value.okWide Tryz.prog W r b0 24 v) (h : DataW.Trod enc Tryz.prog W base spare held 24 v d p) :
    ∃ (m g b : ByteArray) (x y : Int) (a a' : Option Addr) (l k l' k' : Nat), v = .agg #[.string m, .string g, .int .i64 x, .int .i64 y, .slice a l k, .string b, .slice a' l' k'] := by
  obtain ⟨cs, rfl, hsz, hf⟩ := open_fields Tryz.underlying24 (by kernel_rfl) (by kernel_rfl) hv h
  obtain ⟨l⟩ := cs
  match l, hsz with
  | [c0, c1, c2, c3, c4, c5, c6], _ =>
    obtain ⟨_, _, h0⟩ := hf 0 _ c0 rfl rfl
    obtain ⟨_, _, h1⟩ := hf 1 _ c1 rfl rfl
    obtain ⟨_, _, h2⟩ := hf 2 _ c2 rfl rfl
    obtain ⟨_, _, h3⟩ := hf 3 _ c3 rfl rfl
    obtain ⟨_, _, h4⟩ := hf 4 _ c4 rfl rfl
    obtain ⟨_, _, h5⟩ := hf 5 _ c5 rfl rfl
    obtain ⟨_, _, h6⟩ := hf 6 _ c6 rfl rfl
    obtain ⟨m, e0, _, _⟩ := DataW.trod_string Tryz.underlying9 h0
    obtain ⟨g, e1, _, _⟩ := DataW.trod_string Tryz.underlying9 h1
    obtain ⟨x, e2, _, _⟩ := DataW.trod_int Tryz.underlying3 h2
    obtain ⟨y, e3, _, _⟩ := DataW.trod_int Tryz.underlying3 h3
    obtain ⟨a, l, k, rfl⟩ := slice_val Tryz.underlying22 h4
    obtain ⟨b, e5, _, _⟩ := DataW.trod_string Tryz.underlying9 h5
    obtain ⟨a', l', k', rfl⟩ := slice_val Tryz.underlying22 h6
    simp only [List.cons.injEq, and_true] at e0 e1 e2 e3 e5
    subst e0 e1 e2 e3 e5
    exact ⟨m, g, b, x, y, a, a', l, k, l', k', rfl⟩

theorem range_of {n : Int} (h : (Lit.int .i64 n).wf = true) : -9223372036854775808 ≤ n ∧ n ≤ 9223372036854775807 := by
  unfold Lit.wf at h
  rw [Bool.and_eq_true, decide_eq_true_eq, decide_eq_true_eq] at h
  exact h

set_option maxRecDepth 100000 in
/-- a fault by value -/
theorem open_fault {H : Type} {enc : TypeId × Value → H} {W : World} {base b0 : Nat} {spare : Nat → Bool} {held : Bool} {r : Reach} {v : Value} {d : DataW H} {p : List MemPlace}
    (hv : Value.okWide Tryz.prog W r b0 27 v) (h : DataW.Trod enc Tryz.prog W base spare held 27 v d p) :
    ∃ (n x y : Int), v = .agg #[.int .i64 n, .int .i64 x, .int .i64 y] ∧ -9223372036854775808 ≤ n ∧ n ≤ 9223372036854775807 := by
  obtain ⟨cs, rfl, hsz, hf⟩ := open_fields Tryz.underlying27 (by kernel_rfl) (by kernel_rfl) hv h
  obtain ⟨l⟩ := cs
  match l, hsz with
  | [c0, c1, c2], _ =>
    obtain ⟨_, _, h0⟩ := hf 0 _ c0 rfl rfl
    obtain ⟨_, _, h1⟩ := hf 1 _ c1 rfl rfl
    obtain ⟨_, _, h2⟩ := hf 2 _ c2 rfl rfl
    obtain ⟨n, e0, _, w0⟩ := DataW.trod_int Tryz.underlying3 h0
    obtain ⟨x, e1, _, _⟩ := DataW.trod_int Tryz.underlying25 h1
    obtain ⟨y, e2, _, _⟩ := DataW.trod_int Tryz.underlying3 h2
    simp only [List.cons.injEq, and_true] at e0 e1 e2
    subst e0 e1 e2
    exact ⟨n, x, y, rfl, range_of w0⟩
end Go.Proofs.YtjlgdeeahcfcgaaGreatDoor
