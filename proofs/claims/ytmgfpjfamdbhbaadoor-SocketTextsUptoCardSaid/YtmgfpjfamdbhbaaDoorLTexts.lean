/- The law SocketTexts' walk. -/
import Derived.Test.YtmgfpjfamdbhbaaDoorAwake
import Derived.Test.YtmgfpjfamdbhbaaDoorRChar
namespace Go.Proofs.YtmgfpjfamdbhbaaDoor
open Go.RowKit

set_option maxHeartbeats 1000000 in
set_option maxRecDepth 100000 in
theorem texts_any (s : ByteArray) (w : World) (hT : Tabs w) (hs : s.size ≤ 281474976710656) :
    Calls Tryd.prog 4 #[.string s] w fun e w' => e = .returned (.bool true) ∧ Below w.heap.size w w' := by
  have hA := awake_any w hT
  have hI := fun wx (hb : Below w.heap.size w wx) => isText_any s wx (by omega) (hT.below hT.size hb)
  have hR := fun wx => risText_any s wx (by omega)
  generalize Lib.validD (bl s) = V at *
  go_enter Tryd.func4, Tryd.ntmps4
  go_wp2_with (first | (go_at_call 14; refine hA.mono ?_; rintro e w1 ⟨rfl, hb1⟩) | (go_at_call 20; refine (hI _ hb1).mono ?_; rintro e w2 ⟨rfl, hb2⟩) | (go_at_call 21; refine (hR _).mono ?_; rintro e w3 ⟨rfl, rfl⟩))
  go_ret
  exact ⟨by simp, hb1.trans (hb2.mono hb1.size)⟩
end Go.Proofs.YtmgfpjfamdbhbaaDoor
