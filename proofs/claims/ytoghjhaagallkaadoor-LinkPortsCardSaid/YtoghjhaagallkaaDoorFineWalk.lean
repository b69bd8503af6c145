/- LinkFine: the walk. -/
import Derived.Test.YtoghjhaagallkaaDoorFine
import Derived.Test.YtoghjhaagallkaaDoorRFine
import Derived.Test.YtoghjhaagallkaaDoorFineLaw
namespace Go.Proofs.YtoghjhaagallkaaDoor.link
open Go.ChangeShapes Go.WideShapes Go.ChangeAt Go.RowKit Go.Lib

theorem long_any (l : List UInt8) (w : World) :
    Calls Tryd.prog 10 #[.string ⟨l.toArray⟩] w fun e w' => e = .returned (.bool (decide (8192 < (l.length : Int)))) ∧ w = w' := by
  go_enter Tryd.func10, Tryd.ntmps10
  go_wp2_with fail
  go_ret
  exact ⟨rfl, rfl⟩

theorem ex1 (w : World) (hU : GU w) :
    Calls Tryd.prog 9 #[.string ⟨#[97, 37, 50, 48, 98]⟩] w fun e w' => e = .returned (.bool true) ∧ Below w.heap.size w w' := by
  have h := fine_any [97, 37, 50, 48, 98] (by decide) w hU
  rw [fine_ex1] at h
  exact h
theorem ex2 (w : World) (hU : GU w) :
    Calls Tryd.prog 9 #[.string ⟨#[97, 32, 98]⟩] w fun e w' => e = .returned (.bool false) ∧ Below w.heap.size w w' := by
  have h := fine_any [97, 32, 98] (by decide) w hU
  rw [fine_ex2] at h
  exact h

set_option maxHeartbeats 800000 in
set_option maxRecDepth 100000 in
theorem fine_walk (s : List UInt8) (hs : (⟨s.toArray⟩ : ByteArray).size ≤ maxLen) (t : List UInt8) (ht : (⟨t.toArray⟩ : ByteArray).size ≤ maxLen) (w : World) (hU : GU w) :
    Calls Tryd.prog 3 #[.string ⟨s.toArray⟩, .string ⟨t.toArray⟩] w fun e w' => e = .returned (.bool true) ∧ Below w.heap.size w w' := by
  rw [bsize] at hs ht
  unfold maxLen at hs ht
  have HJ := fine_join s t
  have F1 := fun wx (h : GU wx) (g : s.length ≤ 1000000000) => fine_any s g wx h
  have F2 := fun wx (h : GU wx) (g : t.length ≤ 1000000000) => fine_any t g wx h
  have F3 := fun wx (h : GU wx) (g : (s ++ t).length ≤ 1000000000) => fine_any (s ++ t) g wx h
  have R1 := fun wx (g : s.length ≤ 1000000000) => rfine_any s g wx
  have R2 := fun wx (g : t.length ≤ 1000000000) => rfine_any t g wx
  generalize fineS s = a at *
  generalize fineS t = b at *
  generalize fineS (s ++ t) = c at *
  have HH := Lib.hid HJ
  clear HJ
  go_enter Tryd.func3, Tryd.ntmps3
  go_wp2_with fail
  refine (ex1 w hU).mono ?_
  rintro e w1 ⟨rfl, B1⟩
  have U1 := hU.below B1
  go_wp2_with fail
  refine (ex2 w1 U1).mono ?_
  rintro e w2 ⟨rfl, B2⟩
  have U2 := U1.below B2
  have B02 := below_trans B1 B2
  go_wp2_with fail
  by_cases l1 : (8192 : Int) < s.length
  · have K1 := long_any s w2
    rw [decide_eq_true l1] at K1
    refine K1.mono ?_
    rintro e w' ⟨rfl, rfl⟩
    clear K1
    go_wp2_with fail
    go_ret
    exact ⟨rfl, B02⟩
  · have K1 := long_any s w2
    rw [decide_eq_false l1] at K1
    refine K1.mono ?_
    rintro e w' ⟨rfl, rfl⟩
    clear K1
    go_wp2_with fail
    by_cases l2 : (8192 : Int) < t.length
    · have K2 := long_any t w2
      rw [decide_eq_true l2] at K2
      refine K2.mono ?_
      rintro e w' ⟨rfl, rfl⟩
      clear K2
      go_wp2_with fail
      go_ret
      exact ⟨rfl, B02⟩
    · have K2 := long_any t w2
      rw [decide_eq_false l2] at K2
      refine K2.mono ?_
      rintro e w' ⟨rfl, rfl⟩
      clear K2
      go_wp2_with fail
      refine (F1 w2 U2 (by omega)).mono ?_
      rintro e w3 ⟨rfl, B3⟩
      have U3 := U2.below B3
      have B03 := below_trans B02 B3
      go_wp2_with fail
      refine (F2 w3 U3 (by omega)).mono ?_
      rintro e w4 ⟨rfl, B4⟩
      have U4 := U3.below B4
      have B04 := below_trans B03 B4
      go_wp2_with fail
      refine (R1 w4 (by omega)).mono ?_
      rintro e w' ⟨rfl, rfl⟩
      go_wp2_with fail
      refine (R2 w4 (by omega)).mono ?_
      rintro e w' ⟨rfl, rfl⟩
      cases a
      · go_wp2_with fail
        go_ret
        exact ⟨rfl, B04⟩
      · cases b
        · go_wp2_with fail
          go_ret
          exact ⟨rfl, B04⟩
        · obtain rfl : c = true := HH.out rfl rfl
          go_wp2_with fail
          refine (F3 w4 U4 (by rw [List.length_append]; omega)).mono ?_
          rintro e w5 ⟨rfl, B5⟩
          go_wp2_with fail
          go_ret
          exact ⟨rfl, below_trans B04 B5⟩
end Go.Proofs.YtoghjhaagallkaaDoor.link
