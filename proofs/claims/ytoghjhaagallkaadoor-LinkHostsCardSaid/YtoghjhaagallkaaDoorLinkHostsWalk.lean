/- LinkHosts: the walk. -/
import Derived.Test.YtoghjhaagallkaaDoorRHost
import Derived.Test.YtoghjhaagallkaaDoorFineWalk
namespace Go.Proofs.YtoghjhaagallkaaDoor.link
open Go.ChangeShapes Go.WideShapes Go.ChangeAt Go.RowKit Go.Lib

theorem host_ex1 : hostS [91, 58, 58, 49, 93] = true := by decide +kernel
theorem host_ex2 : hostS [49, 46, 50, 46, 51] = false := by decide +kernel

theorem hex1 (w : World) (hG : G w) (hE : GE w) (hU : GU w) :
    Calls Tryd.prog 12 #[.string ⟨#[91, 58, 58, 49, 93]⟩] w fun e w' => e = .returned (.bool true) ∧ Below w.heap.size w w' := by
  have h := host_any [91, 58, 58, 49, 93] (by decide) w hG hE hU
  rw [host_ex1] at h
  exact h
theorem hex2' (w : World) (hG : G w) (hE : GE w) (hU : GU w) :
    Calls Tryd.prog 12 #[.string ⟨#[49, 46, 50, 46, 51]⟩] w fun e w' => e = .returned (.bool false) ∧ Below w.heap.size w w' := by
  have h := host_any [49, 46, 50, 46, 51] (by decide) w hG hE hU
  rw [host_ex2] at h
  exact h

set_option maxHeartbeats 800000 in
set_option maxRecDepth 100000 in
theorem hosts_walk (s : List UInt8) (hs : (⟨s.toArray⟩ : ByteArray).size ≤ maxLen) (w : World) (hG : G w) (hE : GE w) (hU : GU w) :
    Calls Tryd.prog 4 #[.string ⟨s.toArray⟩] w fun e w' => e = .returned (.bool true) ∧ Below w.heap.size w w' := by
  rw [bsize] at hs
  unfold maxLen at hs
  have F1 := fun wx (g : s.length ≤ 1000000) (hG : G wx) (hE : GE wx) (hU : GU wx) => host_any s g wx hG hE hU
  have R1 := fun wx (g : s.length ≤ 1000000) => rhost_any s g wx
  generalize hostS s = a at *
  go_enter Tryd.func4, Tryd.ntmps4
  go_wp2_with fail
  refine (hex1 w hG hE hU).mono ?_
  rintro e w1 ⟨rfl, B1⟩
  have G1 := hG.below B1
  have E1 := hE.below B1
  have U1 := hU.below B1
  go_wp2_with fail
  refine (hex2' w1 G1 E1 U1).mono ?_
  rintro e w2 ⟨rfl, B2⟩
  have G2 := G1.below B2
  have E2 := E1.below B2
  have U2 := U1.below B2
  have B02 := below_trans B1 B2
  go_wp2_with fail
  by_cases l1 : (8192 : Int) < s.length
  · have K1 := long_any s w2
    rw [decide_eq_true l1] at K1
    refine K1.mono ?_
    rintro e w' ⟨rfl, rfl⟩
    clear K1
    go_wp2_with fail
    go_ret
    exact ⟨rfl, B02⟩
  · have K1 := long_any s w2
    rw [decide_eq_false l1] at K1
    refine K1.mono ?_
    rintro e w' ⟨rfl, rfl⟩
    clear K1
    go_wp2_with fail
    refine (F1 w2 (by omega) G2 E2 U2).mono ?_
    rintro e w3 ⟨rfl, B3⟩
    have B03 := below_trans B02 B3
    go_wp2_with fail
    refine (R1 w3 (by omega)).mono ?_
    rintro e w4 ⟨rfl, B4⟩
    have B04 := below_trans B03 B4
    cases a
    · go_wp2_with fail
      go_ret
      exact ⟨rfl, B04⟩
    · go_wp2_with fail
      go_ret
      exact ⟨rfl, B04⟩
end Go.Proofs.YtoghjhaagallkaaDoor.link
