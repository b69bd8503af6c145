/- LinkCases: the walk. -/
import Derived.Test.YtoghjhaagallkaaDoorWakes8
namespace Go.Proofs.YtoghjhaagallkaaDoor.link
open Go.ChangeShapes Go.WideShapes Go.ChangeAt Go.RowKit Go.Lib
set_option maxHeartbeats 800000 in
set_option maxRecDepth 100000 in
theorem cases_walk (s : List UInt8) (hs : (⟨s.toArray⟩ : ByteArray).size ≤ maxLen) (w : World) (hG : G w) (hE : GE w) (hU : GU w) :
    Calls Tryd.prog 6 #[.string ⟨s.toArray⟩] w fun e w' => e = .returned (.bool true) ∧ Below w.heap.size w w' := by
  rw [bsize] at hs
  unfold maxLen at hs
  have F1 := fun wx (g : s.length ≤ 1000000) (hG : G wx) => scheme_any s (by omega) wx hG
  have A1 := fun wx (g : s.length ≤ 1000000) (hG : G wx) (hE : GE wx) (hU : GU wx) => abs_any s g wx hG hE hU
  cases ho : sch true s with
  | none =>
    have hz := abs_none s ho
    rw [ho] at F1
    rw [hz] at A1
    clear ho hz
    go_enter Tryd.func6, Tryd.ntmps6
    go_wp2_with fail
    refine (wakes_any w hG hE hU).mono ?_
    rintro e w2 ⟨rfl, B02⟩
    have G2 := hG.below B02
    go_wp2_with fail
    by_cases l1 : (8192 : Int) < s.length
    · have K1 := long_any s w2
      rw [decide_eq_true l1] at K1
      refine K1.mono ?_
      rintro e w' ⟨rfl, rfl⟩
      clear K1
      go_wp2_with fail
      go_ret
      exact ⟨rfl, B02⟩
    · have K1 := long_any s w2
      rw [decide_eq_false l1] at K1
      refine K1.mono ?_
      rintro e w' ⟨rfl, rfl⟩
      clear K1
      go_wp2_with fail
      refine (F1 w2 (by omega) G2).mono ?_
      rintro e w3 ⟨rfl, B3⟩
      have B03 := below_trans B02 B3
      go_wp2_with fail
      refine (A1 w3 (by omega) (hG.below B03) (hE.below B03) (hU.below B03)).mono ?_
      rintro e w4 ⟨rfl, B4⟩
      go_wp2_with fail
      go_ret
      exact ⟨rfl, below_trans B03 B4⟩
  | some n =>
    have hlt := sch_lt s true n ho
    have hz := abs_cases s n ho
    have hlen : (lowS (s.take n)).length = n := by rw [lowS_len, List.length_take]; omega
    rw [ho] at F1
    have e1 : schT s (some n) = lowS (s.take n) := rfl
    rw [e1, Option.isSome_some] at F1
    have e2 : s.drop n = s.drop (lowS (s.take n)).length := by rw [hlen]
    rw [e2] at hz
    have hls : (lowS (s.take n)).length ≤ s.length := by omega
    clear e1 e2 ho hlen hlt
    generalize lowS (s.take n) = sc at *
    have A2 := fun wx (g : s.length ≤ 1000000) (hG : G wx) (hE : GE wx) (hU : GU wx) => abs_any (sc ++ s.drop sc.length) (by simp; omega) wx hG hE hU
    rw [hz] at A2
    clear hz
    generalize absS s = q at *
    go_enter Tryd.func6, Tryd.ntmps6
    go_wp2_with fail
    refine (wakes_any w hG hE hU).mono ?_
    rintro e w2 ⟨rfl, B02⟩
    have G2 := hG.below B02
    go_wp2_with fail
    by_cases l1 : (8192 : Int) < s.length
    · have K1 := long_any s w2
      rw [decide_eq_true l1] at K1
      refine K1.mono ?_
      rintro e w' ⟨rfl, rfl⟩
      clear K1
      go_wp2_with fail
      go_ret
      exact ⟨rfl, B02⟩
    · have K1 := long_any s w2
      rw [decide_eq_false l1] at K1
      refine K1.mono ?_
      rintro e w' ⟨rfl, rfl⟩
      clear K1
      go_wp2_with fail
      refine (F1 w2 (by omega) G2).mono ?_
      rintro e w3 ⟨rfl, B3⟩
      have B03 := below_trans B02 B3
      go_wp2_with fail
      refine (A2 w3 (by omega) (hG.below B03) (hE.below B03) (hU.below B03)).mono ?_
      rintro e w4 ⟨rfl, B4⟩
      have B04 := below_trans B03 B4
      go_wp2_with fail
      refine (A1 w4 (by omega) (hG.below B04) (hE.below B04) (hU.below B04)).mono ?_
      rintro e w5 ⟨rfl, B5⟩
      cases q
      · go_wp2_with fail
        go_ret
        exact ⟨rfl, below_trans B04 B5⟩
      · go_wp2_with fail
        go_ret
        exact ⟨rfl, below_trans B04 B5⟩
end Go.Proofs.YtoghjhaagallkaaDoor.link
