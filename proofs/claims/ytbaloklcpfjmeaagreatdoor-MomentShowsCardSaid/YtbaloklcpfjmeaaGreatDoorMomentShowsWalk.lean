/- MomentShows: the walk. -/
import Derived.Test.YtbaloklcpfjmeaaGreatDoorWakes5
import Derived.Test.YtbaloklcpfjmeaaGreatDoorRShowW
import Derived.OpenShut
namespace Go.Proofs.YtbaloklcpfjmeaaGreatDoor.mom
open Go.ChangeShapes Go.WideShapes Go.ChangeAt Go.RowKit Go.Lib Go.Proofs.YtbaloklcpfjmeaaGreatDoor.num Go.Proofs.YtbaloklcpfjmeaaGreatDoor.days Go.Proofs.YtbaloklcpfjmeaaGreatDoor.cal

set_option maxHeartbeats 800000 in
set_option maxRecDepth 100000 in
theorem shows_walk (a : Int) (ha : (Lit.int .i64 a).wf = true) (b : Int) (hb : (Lit.int .i64 b).wf = true) (w : World) (hG : G w) (hE : GE w) :
    Calls Tryz.prog 4 #[.int .i64 a, .int .i64 b] w fun e w' => e = .returned (.bool true) ∧ Below w.heap.size w w' := by
  have a0 := bounds_i64 ha
  have b0 := bounds_i64 hb
  have hp := fun w h => mshow_any a b a0 b0 w h
  have hr := fun w => rshow_any a b a0 b0 w
  generalize (showM a b).1 = s at *
  generalize (showM a b).2 = e at *
  go_enter Tryz.func4, Tryz.ntmps4
  go_wp2_with fail
  refine (hp w hG).mono ?_
  rintro ee w1 ⟨rfl, B1⟩
  go_wp2_with fail
  refine (hr w1).mono ?_
  rintro ee w2 ⟨rfl, B2⟩
  clear hp hr
  have B02 := below_trans B1 B2
  go_wp2_with fail
  refine (wakes_any w2 (hG.below B02) (hE.below B02)).mono ?_
  rintro ee w3 ⟨rfl, B3⟩
  go_wp2_with fail
  go_ret
  exact ⟨rfl, below_trans B02 B3⟩
end Go.Proofs.YtbaloklcpfjmeaaGreatDoor.mom
