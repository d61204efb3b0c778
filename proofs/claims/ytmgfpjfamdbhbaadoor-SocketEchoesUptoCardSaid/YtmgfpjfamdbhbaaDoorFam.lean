/- A region that draws its order, walked once in a class of worlds that is given as a family; no condition. -/
import Derived.Test.YtmgfpjfamdbhbaaDoorOwn
import Derived.BigQuiet
import Derived.Deep.DeepCutAuto
import Derived.Deep.CutBlock
namespace Go.Proofs.YtmgfpjfamdbhbaaDoor
open Go.RowKit

theorem wp_region_quiet_fam {P : Program} {I : Type} (F : I → World) {id : Nat} {Q : Exit → Act → World → Prop} {a : Act} {w : World} {l : List Oper} (hm : P.follows .mixedOrders = true) (hB : Region.lexB .any l.toArray = true)
    (hC : ∃ i, w.drew = F i)
    (h : wpQuiet P l.toArray (fun w' => ∃ i, w' = F i) (fun a' => ∀ w', (∃ i, w' = F i) → Q .normal a' w') l a) : (Code.region id l.toArray true).wp P Q a w :=
  wp_region_quiet (C := fun w' => ∃ i, w' = F i) hm hB hC (by simpa using h)

/-- all worlds that are as W below block B -/
theorem family (B : Nat) (W : World) : ∃ (I : Type) (F : I → World), Nonempty I ∧ (∀ i, Below B W (F i)) ∧ (∀ x, Below B W x → ∃ i, x = F i) :=
  ⟨{x : World // Below B W x}, Subtype.val, ⟨⟨W, Below.refl _ _⟩⟩, fun i => i.2, fun x h => ⟨⟨x, h⟩, rfl⟩⟩
end Go.Proofs.YtmgfpjfamdbhbaaDoor
