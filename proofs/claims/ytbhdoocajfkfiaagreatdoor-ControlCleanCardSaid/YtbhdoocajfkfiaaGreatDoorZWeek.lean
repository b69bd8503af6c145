/- The contract of days.Week. -/
import Derived.Test.YtbhdoocajfkfiaaGreatDoorNg
import Derived.WalkLawsBesides
namespace Go.Proofs.YtbhdoocajfkfiaaGreatDoor.days
open Go.ChangeShapes Go.WideShapes Go.ChangeAt Go.RowKit Go.Lib Go.Proofs.YtbhdoocajfkfiaaGreatDoor.cal

theorem firstW_1 : firstW 1 = -719162 := by decide
theorem firstW_end : firstW 275761 = 100000107 := by decide
/-- the week of a number, and the error -/
def weekE (n : Int) : (Int × Int) × Int :=
  if -719162 ≤ n ∧ n < 100000107 then ((yearW (dateOf n).1 n, (n - firstW (yearW (dateOf n).1 n)) / 7 + 1), 0) else ((0, 0), 2)
theorem firstW_bound (y : Int) (h1 : 0 ≤ y) (h2 : y ≤ 275770) : -800000 ≤ firstW y ∧ firstW y ≤ 120000000 := by
  have := firstW_near y
  have : -719800 ≤ newY y ∧ newY y ≤ 110000000 := by unfold newY; omega
  omega

set_option maxHeartbeats 1600000 in
set_option maxRecDepth 100000 in
theorem week_any (n : Int) (hn : int64 n) (w : World) :
    Calls Tryz.prog 211 #[.int .i64 n] w fun e w' => e = .returned (.tuple #[.int .i64 (weekE n).1.1, .int .i64 (weekE n).1.2, .int .i64 (weekE n).2]) ∧ w = w' := by
  obtain ⟨v, hv⟩ : ∃ v, v = weekE n := ⟨_, rfl⟩
  rw [← hv]
  unfold weekE at hv
  have f1 := first_any 1 (by decide) (by decide) w
  have f2 := first_any 275761 (by decide) (by decide) w
  rw [firstW_1] at f1
  rw [firstW_end] at f2
  have he := ends_any w
  have hda := date_any n hn w
  obtain ⟨n1, n2⟩ := hn
  by_cases h1 : n < -719162
  · have HV : Hid (v = ((0, 0), 2)) := Lib.hid (by rw [hv, if_neg (by omega)])
    clear hv
    go_enter Tryz.func211, Tryz.ntmps211
    go_wp2_with fail
    refine f1.mono ?_
    rintro e w' ⟨rfl, rfl⟩
    go_wp2_with fail
    go_ret3
    exact ⟨ret_3 (by rw [HV.out]) (by rw [HV.out]) (by rw [HV.out]), rfl⟩
  by_cases h2 : 100000107 ≤ n
  · have HV : Hid (v = ((0, 0), 2)) := Lib.hid (by rw [hv, if_neg (by omega)])
    clear hv
    go_enter Tryz.func211, Tryz.ntmps211
    go_wp2_with fail
    refine f1.mono ?_
    rintro e w' ⟨rfl, rfl⟩
    go_wp2_with fail
    refine f2.mono ?_
    rintro e w' ⟨rfl, rfl⟩
    go_wp2_with fail
    go_ret3
    exact ⟨ret_3 (by rw [HV.out]) (by rw [HV.out]) (by rw [HV.out]), rfl⟩
  rw [if_pos (by omega)] at hv
  have hdb := dateOf_bounds n (by omega) (by omega)
  obtain ⟨y1, y2, _⟩ := hdb
  have hde : dateE n = (dateOf n, 0) := by unfold dateE; rw [if_pos (by omega)]
  rw [hde] at hda
  dsimp only at hda
  generalize (dateOf n).2.1 = mm at *
  generalize (dateOf n).2.2 = dd at *
  generalize hyd : (dateOf n).1 = y at *
  have g1 := fun w => first_any (y + 1) (by omega) (by omega) w
  have g2 := fun w => first_any y (by omega) (by omega) w
  have g3 := fun (w : World) (h : 1 ≤ y - 1) => first_any (y - 1) h (by omega) w
  obtain ⟨b1, b2⟩ := firstW_bound (y + 1) (by omega) (by omega)
  obtain ⟨b3, b4⟩ := firstW_bound y (by omega) (by omega)
  obtain ⟨b5, b6⟩ := firstW_bound (y - 1) (by omega) (by omega)
  have hmin : min n 100000109 = n := by omega
  have hy1 : y = 1 → firstW y ≤ n := by rintro rfl; rw [firstW_1]; omega
  have hlt := firstW_lt y
  have hlt2 := firstW_lt (y - 1)
  rw [show y - 1 + 1 = y from by omega] at hlt2
  unfold yearW at hv
  have hrn : y ≠ 1 → firstW (y - 1) ≤ n := by
    intro g
    have a := (num_year _ _ _ (date_ok n (by omega)).1).1
    rw [(date_ok n (by omega)).2.1] at a
    have b := firstW_near (y - 1)
    have c := newY_mono (y - 1) y (by omega)
    have d := newY_next (y - 1)
    rw [show y - 1 + 1 = y from by omega] at d
    have e : newY (y - 1) + 365 ≤ newY y := by rw [d]; split <;> omega
    rw [hyd] at a
    omega
  generalize hp : firstW (y + 1) = p at *
  generalize hq : firstW y = q at *
  generalize hr : firstW (y - 1) = r at *
  have n3 : -719162 ≤ n := by omega
  have n4 : n < 100000107 := by omega
  have HM := Lib.hid hmin
  clear hmin h1 h2 hde
  have HQ := Lib.hid hq
  have HP := Lib.hid hp
  have HRN := Lib.hid hrn
  have HR := Lib.hid hr
  clear hq hr hp hrn hyd
  go_enter Tryz.func211, Tryz.ntmps211
  go_wp2_with fail
  refine f1.mono ?_
  rintro e w' ⟨rfl, rfl⟩
  go_wp2_with fail
  refine f2.mono ?_
  rintro e w' ⟨rfl, rfl⟩
  go_wp2_with fail
  refine he.mono ?_
  rintro e w' ⟨rfl, rfl⟩
  clear f1 f2 he
  go_wp2_with fail
  refine hda.mono ?_
  rintro e w' ⟨rfl, rfl⟩
  clear hda
  go_wp2_with fail
  refine (g1 w).mono ?_
  rintro e w' ⟨rfl, rfl⟩
  have hP : firstW (y + 1) = p := HP.out
  by_cases hA : p ≤ n
  · have HV : Hid (v = ((y + 1, (n - p) / 7 + 1), 0)) := Lib.hid (by rw [hv, if_pos hA, hP])
    have hpos : 0 ≤ n - p := by omega
    clear hv hP g2 g3
    go_wp2_with fail
    refine (g1 w).mono ?_
    rintro e w' ⟨rfl, rfl⟩
    go_wp2_with fail
    refine (g1 w).mono ?_
    rintro e w' ⟨rfl, rfl⟩
    go_wp2_with fail
    go_ret3
    exact ⟨ret_3 (by rw [HV.out]) (by rw [HV.out]) (by rw [HV.out]), rfl⟩
  by_cases hB : n < q
  · have HV : Hid (v = ((y - 1, (n - r) / 7 + 1), 0)) := Lib.hid (by rw [hv, if_neg hA, if_pos hB, HR.out])
    have hr : r ≤ n := by
      have hyy : y ≠ 1 := fun g => by have := hy1 g; omega
      exact HRN.out hyy
    have hyy : 1 ≤ y - 1 := by
      rcases Int.lt_or_le 1 y with g | g
      · omega
      · have := hy1 (by omega); omega
    have hpos : 0 ≤ n - r := by omega
    have g3' := g3 w hyy
    clear hv hP g3 hy1
    go_wp2_with fail
    refine (g2 w).mono ?_
    rintro e w' ⟨rfl, rfl⟩
    go_wp2_with fail
    refine g3'.mono ?_
    rintro e w' ⟨rfl, rfl⟩
    go_wp2_with fail
    go_ret3
    exact ⟨ret_3 (by rw [HV.out]) (by rw [HV.out]) (by rw [HV.out]), rfl⟩
  · have HV : Hid (v = ((y, (n - q) / 7 + 1), 0)) := Lib.hid (by rw [hv, if_neg hA, if_neg hB, HQ.out])
    have hpos : 0 ≤ n - q := by omega
    clear hv hP g3 hy1
    go_wp2_with fail
    refine (g2 w).mono ?_
    rintro e w' ⟨rfl, rfl⟩
    go_wp2_with fail
    refine (g2 w).mono ?_
    rintro e w' ⟨rfl, rfl⟩
    go_wp2_with fail
    go_ret3
    exact ⟨ret_3 (by rw [HV.out]) (by rw [HV.out]) (by rw [HV.out]), rfl⟩
end Go.Proofs.YtbhdoocajfkfiaaGreatDoor.days
