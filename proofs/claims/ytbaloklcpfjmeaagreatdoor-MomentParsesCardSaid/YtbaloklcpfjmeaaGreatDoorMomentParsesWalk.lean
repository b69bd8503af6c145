/- MomentParses: the walk. -/
import Derived.Test.YtbaloklcpfjmeaaGreatDoorWakes5
import Derived.Test.YtbaloklcpfjmeaaGreatDoorRParseW2
import Derived.OpenShut
namespace Go.Proofs.YtbaloklcpfjmeaaGreatDoor.mom
open Go.ChangeShapes Go.WideShapes Go.ChangeAt Go.RowKit Go.Lib Go.Proofs.YtbaloklcpfjmeaaGreatDoor.num Go.Proofs.YtbaloklcpfjmeaaGreatDoor.days Go.Proofs.YtbaloklcpfjmeaaGreatDoor.cal

set_option maxHeartbeats 800000 in
set_option maxRecDepth 100000 in
theorem parses_walk (a : Int) (ha : (Lit.int .i64 a).wf = true) (s : List UInt8) (hs : (⟨s.toArray⟩ : ByteArray).size ≤ maxLen) (w : World) (hG : G w) (hE : GE w) :
    Calls Tryz.prog 3 #[.int .i64 a, .string ⟨s.toArray⟩] w fun e w' => e = .returned (.bool true) ∧ Below w.heap.size w w' := by
  rw [bsize] at hs
  unfold maxLen at hs
  have a0 := bounds_i64 ha
  by_cases l1 : (16384 : Int) < s.length
  · go_enter Tryz.func3, Tryz.ntmps3
    go_wp2_with fail
    refine (wakes_any w hG hE).mono ?_
    rintro ee w1 ⟨rfl, B1⟩
    go_wp2_with fail
    go_ret
    exact ⟨rfl, B1⟩
  · have hp := fun w h => mparse_any a a0 s (by omega) w h
    have hr := fun w => rParse_any a a0 s (by omega) w
    generalize (parseM a s).1 = n at *
    generalize (parseM a s).2 = e at *
    go_enter Tryz.func3, Tryz.ntmps3
    go_wp2_with fail
    refine (wakes_any w hG hE).mono ?_
    rintro ee w1 ⟨rfl, B1⟩
    go_wp2_with fail
    refine (hp w1 (hE.below B1)).mono ?_
    rintro ee w2 ⟨rfl, B2⟩
    go_wp2_with fail
    refine (hr w2).mono ?_
    rintro ee w3 ⟨rfl, B3⟩
    clear hp hr
    go_wp2_with fail
    go_ret
    exact ⟨rfl, below_trans (below_trans B1 B2) B3⟩
end Go.Proofs.YtbaloklcpfjmeaaGreatDoor.mom
