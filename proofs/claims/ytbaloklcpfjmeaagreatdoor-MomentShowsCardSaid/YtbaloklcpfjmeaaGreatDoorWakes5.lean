/- law05: wakes. -/
import Derived.Test.YtbaloklcpfjmeaaGreatDoorMomLaw2
import Derived.Test.YtbaloklcpfjmeaaGreatDoorMParse
namespace Go.Proofs.YtbaloklcpfjmeaaGreatDoor.mom
open Go.ChangeShapes Go.WideShapes Go.ChangeAt Go.RowKit Go.Lib Go.Proofs.YtbaloklcpfjmeaaGreatDoor.num Go.Proofs.YtbaloklcpfjmeaaGreatDoor.days Go.Proofs.YtbaloklcpfjmeaaGreatDoor.cal

theorem dd5 : decDigits 500 = [53, 48, 48] := by
  rw [decDigits, dif_neg (by decide), decDigits_two (by decide) (by decide)]; decide
theorem show_ex : showM 4 3661500 = ([48, 49, 58, 48, 49, 58, 48, 49, 46, 53], 0) := by
  rw [show4, if_pos (by decide)]
  have e1 : padS 1 2 = [48, 49] := by unfold padS; rw [decDigits_one (by decide)]; decide
  have e2 : strip (padS 500 3) = [53] := by unfold padS; rw [dd5]; decide
  have : clockS (3661500 : Int).toNat = padS 1 2 ++ 58 :: (padS 1 2 ++ 58 :: (padS 1 2 ++ 46 :: strip (padS 500 3))) := rfl
  rw [this, e1, e2]; rfl
theorem parse_ex : parseM 1 [49, 57, 55, 48, 45, 48, 49, 45, 48, 50] = (86400000, 0) := by decide +kernel

theorem wex1 (w : World) (hG : G w) :
    Calls Tryz.prog 8 #[.int .i64 4, .int .i64 3661500] w fun e w' => e = .returned (.tuple #[.string ⟨#[48, 49, 58, 48, 49, 58, 48, 49, 46, 53]⟩, .int .i64 0]) ∧ Below w.heap.size w w' := by
  have h := mshow_any 4 3661500 ⟨by decide, by decide⟩ ⟨by decide, by decide⟩ w hG
  rw [show_ex] at h
  exact h
theorem wex2 (w : World) (hE : GE w) :
    Calls Tryz.prog 6 #[.int .i64 1, .string ⟨#[49, 57, 55, 48, 45, 48, 49, 45, 48, 50]⟩] w fun e w' => e = .returned (.tuple #[.int .i64 86400000, .int .i64 0]) ∧ Below w.heap.size w w' := by
  have h := mparse_any 1 ⟨by decide, by decide⟩ [49, 57, 55, 48, 45, 48, 49, 45, 48, 50] (by decide) w hE
  rw [parse_ex] at h
  exact h

set_option maxHeartbeats 800000 in
set_option maxRecDepth 100000 in
theorem wakes_any (w : World) (hG : G w) (hE : GE w) :
    Calls Tryz.prog 5 #[] w fun e w' => e = .returned (.bool true) ∧ Below w.heap.size w w' := by
  go_enter Tryz.func5, Tryz.ntmps5
  go_wp2_with fail
  refine (wex1 w hG).mono ?_
  rintro e w1 ⟨rfl, B1⟩
  go_wp2_with fail
  refine (wex2 w1 (hE.below B1)).mono ?_
  rintro e w2 ⟨rfl, B2⟩
  go_wp2_with fail
  go_ret
  exact ⟨rfl, below_trans B1 B2⟩
end Go.Proofs.YtbaloklcpfjmeaaGreatDoor.mom
