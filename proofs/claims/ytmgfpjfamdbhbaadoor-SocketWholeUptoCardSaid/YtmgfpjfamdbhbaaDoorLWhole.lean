/- The law SocketWhole's walk. -/
import Derived.Test.YtmgfpjfamdbhbaaDoorRFeed
namespace Go.Proofs.YtmgfpjfamdbhbaaDoor
open Go.RowKit

set_option maxHeartbeats 1000000 in
set_option maxRecDepth 100000 in
theorem wholes_any (most : Int) (s : ByteArray) (w : World) (hT : Tabs w) (hs : s.size ≤ 1048576) :
    Calls Tryd.prog 6 #[.int .i64 most, .string s] w fun e w' => e = .returned (.bool true) ∧ Below w.heap.size w w' := by
  have hA := awake_any w hT
  have hW := fun wx (hb : Below w.heap.size w wx) => whole_any most s wx (hT.below hT.size hb) (by omega)
  have hR := fun wx => rwhole_any most s wx (by omega)
  generalize wholeL most (bl s) = V at *
  obtain ⟨V1, V2⟩ := V
  simp only at hW hR
  generalize bs V1 = S at *
  go_enter Tryd.func6, Tryd.ntmps6
  go_wp2_with (first | (go_at_call 14; refine hA.mono ?_; rintro e w1 ⟨rfl, hb1⟩) | (go_at_call 26; refine (hW _ hb1).mono ?_; rintro e w2 ⟨rfl, hb2⟩) | (go_at_call 27; refine (hR _).mono ?_; rintro e w3 ⟨rfl, hb3⟩))
  go_ret
  exact ⟨by simp, (hb1.trans (hb2.mono hb1.size)).trans (hb3.mono (Nat.le_trans hb1.size hb2.size))⟩
end Go.Proofs.YtmgfpjfamdbhbaaDoor
