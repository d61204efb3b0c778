/- The law SocketCloses' walk. -/
import Derived.Test.YtmgfpjfamdbhbaaDoorAwake
import Derived.Test.YtmgfpjfamdbhbaaDoorRClose
namespace Go.Proofs.YtmgfpjfamdbhbaaDoor
open Go.RowKit

theorem closeL_size (code : Int) (r : List UInt8) : (closeL code r).1.length ≤ 2 + r.length := by
  unfold closeL
  split
  · simp
  split
  · simp
  split
  · simp
  · simp [highL, highTo_length]

set_option maxHeartbeats 1000000 in
set_option maxRecDepth 100000 in
theorem closes_any (code : Int) (reason body : ByteArray) (w : World) (hT : Tabs w) (hr : reason.size ≤ 281474976710656) (hb : body.size ≤ 281474976710656) :
    Calls Tryd.prog 5 #[.int .i64 code, .string reason, .string body] w fun e w' => e = .returned (.bool true) ∧ Below w.heap.size w w' := by
  have hA := awake_any w hT
  have hT' := fun wx (h : Below w.heap.size w wx) => hT.below hT.size h
  have hP := fun wx (h : Below w.heap.size w wx) => printClose_any code reason wx (by omega) (hT' wx h)
  have hQ := fun wx => rprintClose_any code reason wx (by omega)
  have hC := fun wx (h : Below w.heap.size w wx) => parseClose_any body wx (by omega) (hT' wx h)
  have hD := fun wx => rparseClose_any body wx (by omega)
  have hz : (bs (closeL code (bl reason)).1).size ≤ 4611686018427387904 := by rw [bs_size]; have := closeL_size code (bl reason); rw [bl_length] at this; omega
  have hE := fun wx (h : Below w.heap.size w wx) => parseClose_any (bs (closeL code (bl reason)).1) wx hz (hT' wx h)
  have hF := fun wx => rparseClose_any (bs (closeL code (bl reason)).1) wx hz
  generalize parseCloseL (bl (bs (closeL code (bl reason)).1)) = Z at *
  generalize bs (closeL code (bl reason)).1 = X at *
  generalize (closeL code (bl reason)).2 = n at *
  generalize parseCloseL (bl body) = Y at *
  obtain ⟨Z1, Z2, Z3⟩ := Z
  obtain ⟨Y1, Y2, Y3⟩ := Y
  simp only at hC hD hE hF
  generalize bs Z2 = Z2 at *
  generalize bs Y2 = Y2 at *
  have hbt : ∀ a b : World, Below w.heap.size w a → Below a.heap.size a b → Below w.heap.size w b := fun a b h1 h2 => h1.trans (h2.mono h1.size)
  clear hT hz
  go_enter Tryd.func5, Tryd.ntmps5
  go_upto_region 11 with (first | (go_at_call 14; refine hA.mono ?_; rintro e w1 ⟨rfl, hb1⟩) | (go_at_call 22; refine (hP _ hb1).mono ?_; rintro e w2 ⟨rfl, hb2⟩; have hx2 := hbt _ _ hb1 hb2) | (go_at_call 23; refine (hQ _).mono ?_; rintro e w3 ⟨rfl, hb3⟩; have hx3 := hbt _ _ hx2 hb3) | (go_at_call 24; refine (hC _ hx3).mono ?_; rintro e w4 ⟨rfl, hb4⟩; have hx4 := hbt _ _ hx3 hb4) | (go_at_call 25; refine (hD _).mono ?_; rintro e w5 ⟨rfl, hb5⟩; have hx5 := hbt _ _ hx4 hb5))
  go_wp2_with (first | (go_at_call 24; refine (hE _ hx5).mono ?_; rintro e w6 ⟨rfl, hb6⟩; have hx6 := hbt _ _ hx5 hb6) | (go_at_call 25; refine (hF _).mono ?_; rintro e w7 ⟨rfl, hb7⟩; have hx7 := hbt _ _ hx6 hb7))
  go_ret
  exact ⟨rfl, hx7⟩
end Go.Proofs.YtmgfpjfamdbhbaaDoor
