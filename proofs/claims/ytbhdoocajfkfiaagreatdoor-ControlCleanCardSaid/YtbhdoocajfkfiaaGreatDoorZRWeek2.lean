/- The contracts of the reference's Weeks, Monday, Week. -/
import Derived.Test.YtbhdoocajfkfiaaGreatDoorZRWeek
import Derived.Test.YtbhdoocajfkfiaaGreatDoorZWeek
namespace Go.Proofs.YtbhdoocajfkfiaaGreatDoor.days
open Go.ChangeShapes Go.WideShapes Go.ChangeAt Go.RowKit Go.Lib Go.Proofs.YtbhdoocajfkfiaaGreatDoor.cal

set_option maxHeartbeats 1600000 in
set_option maxRecDepth 100000 in
theorem rweeks_any (y : Int) (hy : int64 y) (w : World) :
    Calls Tryz.prog 270 #[.int .i64 y] w fun e w' => e = .returned (.int .i64 (wksD y)) ∧ w = w' := by
  obtain ⟨v, hv⟩ : ∃ v, v = wksD y := ⟨_, rfl⟩
  rw [← hv]
  unfold wksD at hv
  obtain ⟨y1, y2⟩ := hy
  by_cases a1 : y < 1
  · have HV : Hid (v = 0) := Lib.hid (by rw [hv, if_neg (by omega)])
    clear hv
    go_enter Tryz.func270, Tryz.ntmps270
    go_wp2_with fail
    go_ret
    exact ⟨ret_int HV.out.symm, rfl⟩
  by_cases a2 : 275760 < y
  · have HV : Hid (v = 0) := Lib.hid (by rw [hv, if_neg (by omega)])
    clear hv
    go_enter Tryz.func270, Tryz.ntmps270
    go_wp2_with fail
    go_ret
    exact ⟨ret_int HV.out.symm, rfl⟩
  rw [if_pos (by omega)] at hv
  have f1 := fun w => rfirst_any (y + 1) (by omega) (by omega) w
  have f2 := fun w => rfirst_any y (by omega) (by omega) w
  obtain ⟨c1, c1'⟩ := firstW_bound y (by omega) (by omega)
  have hm := weeksW_mul y
  obtain ⟨j1, j2⟩ := weeksW_pos y
  rw [hm] at f1
  generalize firstW y = p at *
  generalize weeksW y = j at *
  have HV := Lib.hid hv
  clear hv hm
  go_enter Tryz.func270, Tryz.ntmps270
  go_wp2_with fail
  go_loopw [3] (fun s3 wr => ∃ n : Int, s3 = .int .i64 n ∧ 0 ≤ n ∧ n ≤ j ∧ wr = w) (fun a => fun _ => (100 - RowKit.intOf a).toNat)
  case atStart => exact ⟨0, rfl, by omega, by omega, rfl⟩
  case round =>
    obtain ⟨n, rfl, n1, n2, rfl⟩ := hrel
    have g1 := f1 wr
    have g2 := f2 wr
    clear f1 f2
    by_cases hd : n < j
    · go_wp2_with fail
      refine g2.mono ?_
      rintro e w' ⟨rfl, rfl⟩
      go_wp2_with fail
      refine g1.mono ?_
      rintro e w' ⟨rfl, rfl⟩
      go_wp2_with fail
      go_roundw
      case rel => exact ⟨_, rfl, by omega, by omega, by first | rfl | trivial⟩
      case measure => simp [RowKit.intOf]; omega
    · have e : n = j := by omega
      have HX : Hid (v = n) := Lib.hid (by rw [HV.out, e])
      subst e
      go_wp2_with fail
      refine g2.mono ?_
      rintro e w' ⟨rfl, rfl⟩
      go_wp2_with fail
      refine g1.mono ?_
      rintro e w' ⟨rfl, rfl⟩
      go_wp2_with fail
      go_ret
      exact ⟨ret_int HX.out.symm, rfl⟩

set_option maxHeartbeats 1600000 in
set_option maxRecDepth 100000 in
theorem rmonday_any (y k : Int) (hy : int64 y) (hk : int64 k) (w : World) :
    Calls Tryz.prog 224 #[.int .i64 y, .int .i64 k] w fun e w' => e = .returned (.tuple #[.int .i64 (monE y k).1, .int .i64 (monE y k).2]) ∧ w = w' := by
  obtain ⟨v, hv⟩ : ∃ v, v = monE y k := ⟨_, rfl⟩
  rw [← hv]
  unfold monE at hv
  have hl := rweeks_any y hy w
  obtain ⟨d1, d2⟩ := hk
  by_cases h1 : k < 1
  · have HV : Hid (v = (0, 2)) := Lib.hid (by rw [hv, if_neg (by omega)])
    clear hv hl
    go_enter Tryz.func224, Tryz.ntmps224
    go_wp2_with fail
    go_ret2
    exact ⟨ret_ii (by rw [HV.out]) (by rw [HV.out]), rfl⟩
  · by_cases h2 : wksD y < k
    · have HV : Hid (v = (0, 2)) := Lib.hid (by
        rw [hv, if_neg]
        intro g
        unfold wksD at h2
        rw [if_pos ⟨g.1, g.2.1⟩] at h2
        omega)
      clear hv
      generalize wksD y = j at *
      go_enter Tryz.func224, Tryz.ntmps224
      go_wp2_with fail
      refine hl.mono ?_
      rintro e w' ⟨rfl, rfl⟩
      go_wp2_with fail
      go_ret2
      exact ⟨ret_ii (by rw [HV.out]) (by rw [HV.out]), rfl⟩
    · have hok : 1 ≤ y ∧ y ≤ 275760 ∧ k ≤ weeksW y := by
        unfold wksD at h2
        split at h2
        · rename_i g; exact ⟨g.1, g.2, by omega⟩
        · omega
      obtain ⟨a1, a2, a5⟩ := hok
      have hml := weeksW_pos y
      rw [if_pos ⟨a1, a2, by omega, a5⟩] at hv
      have hc := rfirst_any y a1 (by omega) w
      have n1 := firstW_near y
      obtain ⟨b1, b2⟩ := newY_bound y (by omega) (by omega)
      have c1 : -800000 ≤ firstW y := by omega
      have c1' : firstW y ≤ 200000000 := by omega
      have k54 : k ≤ 54 := by omega
      generalize wksD y = j at *
      generalize firstW y = p at *
      have HV := Lib.hid hv
      clear hv a5 hml n1 b1 b2
      go_enter Tryz.func224, Tryz.ntmps224
      go_wp2_with fail
      refine hl.mono ?_
      rintro e w' ⟨rfl, rfl⟩
      go_wp2_with fail
      refine hc.mono ?_
      rintro e w' ⟨rfl, rfl⟩
      go_wp2_with fail
      go_ret2
      exact ⟨ret_ii (by rw [HV.out]) (by rw [HV.out]), rfl⟩
end Go.Proofs.YtbhdoocajfkfiaaGreatDoor.days
