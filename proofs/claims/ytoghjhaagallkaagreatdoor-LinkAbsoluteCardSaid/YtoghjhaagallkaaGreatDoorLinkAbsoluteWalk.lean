/- LinkAbsolute: the walk. -/
import Derived.Test.YtoghjhaagallkaaGreatDoorRAbs
import Derived.Test.YtoghjhaagallkaaGreatDoorWakesZ
namespace Go.Proofs.YtoghjhaagallkaaGreatDoor.link
open Go.ChangeShapes Go.WideShapes Go.ChangeAt Go.RowKit Go.Lib

set_option maxHeartbeats 800000 in
set_option maxRecDepth 100000 in
theorem absolute_walk (s : List UInt8) (hs : (⟨s.toArray⟩ : ByteArray).size ≤ maxLen) (w : World) (hG : G w) (hE : GE w) (hU : GU w) :
    Calls Tryz.prog 3 #[.string ⟨s.toArray⟩] w fun e w' => e = .returned (.bool true) ∧ Below w.heap.size w w' := by
  rw [bsize] at hs
  unfold maxLen at hs
  have F1 := fun wx (g : s.length ≤ 1000000) (hG : G wx) (hE : GE wx) (hU : GU wx) => abs_any s g wx hG hE hU
  have R1 := fun wx (g : s.length ≤ 1000000) => rabs_any s g wx
  generalize absS s = a at *
  go_enter Tryz.func3, Tryz.ntmps3
  go_wp2_with fail
  refine (wakes_any w hG hE hU).mono ?_
  rintro e w2 ⟨rfl, B02⟩
  have G2 := hG.below B02
  have E2 := hE.below B02
  have U2 := hU.below B02
  go_wp2_with fail
  by_cases l1 : (8192 : Int) < s.length
  · have K1 := long_any s w2
    rw [decide_eq_true l1] at K1
    refine K1.mono ?_
    rintro e w' ⟨rfl, rfl⟩
    clear K1
    go_wp2_with fail
    go_ret
    exact ⟨rfl, B02⟩
  · have K1 := long_any s w2
    rw [decide_eq_false l1] at K1
    refine K1.mono ?_
    rintro e w' ⟨rfl, rfl⟩
    clear K1
    go_wp2_with fail
    refine (F1 w2 (by omega) G2 E2 U2).mono ?_
    rintro e w3 ⟨rfl, B3⟩
    have B03 := below_trans B02 B3
    go_wp2_with fail
    refine (R1 w3 (by omega)).mono ?_
    rintro e w4 ⟨rfl, B4⟩
    have B04 := below_trans B03 B4
    cases a
    · go_wp2_with fail
      go_ret
      exact ⟨rfl, B04⟩
    · go_wp2_with fail
      go_ret
      exact ⟨rfl, B04⟩
end Go.Proofs.YtoghjhaagallkaaGreatDoor.link
