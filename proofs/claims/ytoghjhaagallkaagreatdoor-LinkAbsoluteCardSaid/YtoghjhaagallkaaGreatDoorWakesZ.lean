/- law08: wakes. -/
import Derived.Test.YtoghjhaagallkaaGreatDoorAbs
import Derived.Test.YtoghjhaagallkaaGreatDoorLinkPure
namespace Go.Proofs.YtoghjhaagallkaaGreatDoor.link
open Go.ChangeShapes Go.WideShapes Go.ChangeAt Go.RowKit Go.Lib

theorem long_any (l : List UInt8) (w : World) :
    Calls Tryz.prog 5 #[.string ⟨l.toArray⟩] w fun e w' => e = .returned (.bool (decide (8192 < (l.length : Int)))) ∧ w = w' := by
  go_enter Tryz.func5, Tryz.ntmps5
  go_wp2_with fail
  go_ret
  exact ⟨rfl, rfl⟩

theorem abs_ex1 : absS [104, 116, 116, 112, 115, 58, 47, 47, 97, 46, 98, 58, 56, 48, 47, 99, 63, 100, 35, 101] = true := by decide +kernel
theorem abs_ex2 : absS [104, 116, 116, 112, 58, 97] = false := by decide +kernel

theorem aex1 (w : World) (hG : G w) (hE : GE w) (hU : GU w) :
    Calls Tryz.prog 6 #[.string ⟨#[104, 116, 116, 112, 115, 58, 47, 47, 97, 46, 98, 58, 56, 48, 47, 99, 63, 100, 35, 101]⟩] w fun e w' => e = .returned (.bool true) ∧ Below w.heap.size w w' := by
  have h := abs_any [104, 116, 116, 112, 115, 58, 47, 47, 97, 46, 98, 58, 56, 48, 47, 99, 63, 100, 35, 101] (by decide) w hG hE hU
  rw [abs_ex1] at h
  exact h
theorem aex2 (w : World) (hG : G w) (hE : GE w) (hU : GU w) :
    Calls Tryz.prog 6 #[.string ⟨#[104, 116, 116, 112, 58, 97]⟩] w fun e w' => e = .returned (.bool false) ∧ Below w.heap.size w w' := by
  have h := abs_any [104, 116, 116, 112, 58, 97] (by decide) w hG hE hU
  rw [abs_ex2] at h
  exact h

set_option maxHeartbeats 800000 in
set_option maxRecDepth 100000 in
theorem wakes_any (w : World) (hG : G w) (hE : GE w) (hU : GU w) :
    Calls Tryz.prog 4 #[] w fun e w' => e = .returned (.bool true) ∧ Below w.heap.size w w' := by
  go_enter Tryz.func4, Tryz.ntmps4
  go_wp2_with fail
  refine (aex1 w hG hE hU).mono ?_
  rintro e w1 ⟨rfl, B1⟩
  go_wp2_with fail
  refine (aex2 w1 (hG.below B1) (hE.below B1) (hU.below B1)).mono ?_
  rintro e w2 ⟨rfl, B2⟩
  go_wp2_with fail
  go_ret
  exact ⟨rfl, below_trans B1 B2⟩
end Go.Proofs.YtoghjhaagallkaaGreatDoor.link
