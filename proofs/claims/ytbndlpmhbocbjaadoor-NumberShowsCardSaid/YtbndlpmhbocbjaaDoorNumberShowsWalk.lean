/- The law NumberShows, walked by the two contracts. -/
import Derived.Test.YtbndlpmhbocbjaaDoorShow
import Derived.OpenShut
namespace Go.Proofs.YtbndlpmhbocbjaaDoor.numberShows
open Go.ChangeShapes Go.WideShapes Go.ChangeAt Go.RowKit Go.Lib Go.Proofs.YtbndlpmhbocbjaaDoor.num

theorem show15 : showS 1500000 = [49, 46, 53] := by
  have e : showS 1500000 = decDigits 1 ++ 46 :: frac 500000 := rfl
  rw [e, frac_eq _ (by decide), decDigits_one (by decide)]
  decide

set_option maxHeartbeats 400000 in
theorem walk (a0 : Int) (w0 : (Lit.int .i64 a0).wf = true) (w : World) (hG : G w) :
    Calls Tryd.prog 3 #[.int .i64 a0] w fun e w' => e = .returned (.bool true) ∧ Below w.heap.size w w' := by
  have b0 := bounds_i64 w0
  have h1 := show_any 1500000 (by decide) (by decide) w hG
  rw [show15] at h1
  go_enter Tryd.func3, Tryd.ntmps3
  go_wp2_with fail
  refine h1.mono ?_
  rintro e w1 ⟨rfl, hB1⟩
  clear h1
  go_wp2_with fail
  refine (show_any a0 b0.1 b0.2 w1 (hG.below hB1)).mono ?_
  rintro e w2 ⟨rfl, hB2⟩
  go_wp2_with fail
  refine (refshow_any a0 b0.1 b0.2 w2).mono ?_
  rintro e w3 ⟨rfl, hB3⟩
  have hB := below_trans (below_trans hB1 hB2) hB3
  go_wp2_with fail
  go_ret
  exact ⟨rfl, hB⟩
end Go.Proofs.YtbndlpmhbocbjaaDoor.numberShows
