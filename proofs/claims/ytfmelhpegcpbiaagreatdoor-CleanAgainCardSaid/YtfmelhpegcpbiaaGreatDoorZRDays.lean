/- The contracts of the reference's days: leap, length, Length, New, Number, Weekday, first, Weeks, Monday. -/
import Derived.Test.YtfmelhpegcpbiaaGreatDoorZWeek
namespace Go.Proofs.YtfmelhpegcpbiaaGreatDoor.days
open Go.ChangeShapes Go.WideShapes Go.ChangeAt Go.RowKit Go.Lib Go.Proofs.YtfmelhpegcpbiaaGreatDoor.cal

set_option maxHeartbeats 800000 in
theorem rleap_any (y : Int) (h1 : 1 ≤ y) (h2 : y ≤ 300000) (w : World) :
    Calls Tryz.prog 180 #[.int .i64 y] w fun e w' => e = .returned (.bool (decide (leapP y))) ∧ w = w' := by
  obtain ⟨v, hv⟩ : ∃ v, v = decide (leapP y) := ⟨_, rfl⟩
  rw [← hv]
  by_cases g400 : y % 400 = 0
  · have t400 : (y % 400 == 0) = true := by simpa using g400
    have HV : Hid (v = true) := Lib.hid (by rw [hv]; exact decide_eq_true (show leapP y from Or.inl g400))
    clear hv g400
    go_enter Tryz.func180, Tryz.ntmps180
    go_wp2_with fail
    go_ret
    exact ⟨ret_bool HV.out.symm, rfl⟩
  · have t400 : (y % 400 == 0) = false := by simpa using g400
    by_cases g4 : y % 4 = 0
    · have t4 : (y % 4 == 0) = true := by simpa using g4
      have HV : Hid (v = (y % 100 != 0)) := Lib.hid (by
        rw [hv]
        by_cases g : y % 100 = 0
        · rw [decide_eq_false (show ¬ leapP y from fun h => h.elim g400 (fun k => k.2 g))]; simp [g]
        · rw [decide_eq_true (show leapP y from Or.inr ⟨g4, g⟩)]; simp [g])
      clear hv g4 g400
      go_enter Tryz.func180, Tryz.ntmps180
      go_wp2_with fail
      go_ret
      exact ⟨ret_bool HV.out.symm, rfl⟩
    · have t4 : (y % 4 == 0) = false := by simpa using g4
      have HV : Hid (v = false) := Lib.hid (by rw [hv]; exact decide_eq_false (show ¬ leapP y from fun h => by unfold leapP at h; omega))
      clear hv g4 g400
      go_enter Tryz.func180, Tryz.ntmps180
      go_wp2_with fail
      go_ret
      exact ⟨ret_bool HV.out.symm, rfl⟩

set_option maxHeartbeats 1600000 in
theorem rlen_any (y m : Int) (h1 : 1 ≤ y) (h2 : y ≤ 300000) (hm : 1 ≤ m ∧ m ≤ 12) (w : World) :
    Calls Tryz.prog 142 #[.int .i64 y, .int .i64 m] w fun e w' => e = .returned (.int .i64 (mlen y m)) ∧ w = w' := by
  obtain ⟨v, hv⟩ : ∃ v, v = mlen y m := ⟨_, rfl⟩
  rw [← hv]
  have hl := rleap_any y h1 h2 w
  obtain ⟨m1, m2⟩ := hm
  have hmm : m = 1 ∨ m = 2 ∨ m = 3 ∨ m = 4 ∨ m = 5 ∨ m = 6 ∨ m = 7 ∨ m = 8 ∨ m = 9 ∨ m = 10 ∨ m = 11 ∨ m = 12 := by omega
  clear m1 m2
  by_cases g2 : m = 2
  · subst g2
    by_cases hp : leapP y
    · rw [decide_eq_true hp] at hl
      have HV : Hid (v = 29) := Lib.hid (by rw [hv]; simp [mlen, hp])
      clear hv hp hmm
      go_enter Tryz.func142, Tryz.ntmps142
      go_wp2_with fail
      refine hl.mono ?_
      rintro e w' ⟨rfl, rfl⟩
      go_wp2_with fail
      go_ret
      exact ⟨ret_int HV.out.symm, rfl⟩
    · rw [decide_eq_false hp] at hl
      have HV : Hid (v = 28) := Lib.hid (by rw [hv]; simp [mlen, hp])
      clear hv hp hmm
      go_enter Tryz.func142, Tryz.ntmps142
      go_wp2_with fail
      refine hl.mono ?_
      rintro e w' ⟨rfl, rfl⟩
      go_wp2_with fail
      go_ret
      exact ⟨ret_int HV.out.symm, rfl⟩
  · clear hl
    rcases hmm with rfl | rfl | rfl | rfl | rfl | rfl | rfl | rfl | rfl | rfl | rfl | rfl
    case inr.inl => exact absurd rfl g2
    all_goals
      simp [mlen] at hv
      have HV := Lib.hid hv
      clear hv g2
      go_enter Tryz.func142, Tryz.ntmps142
      go_wp2_with fail
      go_ret
      exact ⟨ret_int HV.out.symm, rfl⟩

set_option maxHeartbeats 1600000 in
theorem rlength_any (y m : Int) (hy : int64 y) (hm : int64 m) (w : World) :
    Calls Tryz.prog 197 #[.int .i64 y, .int .i64 m] w fun e w' => e = .returned (.int .i64 (lenD y m)) ∧ w = w' := by
  obtain ⟨v, hv⟩ : ∃ v, v = lenD y m := ⟨_, rfl⟩
  rw [← hv]
  unfold lenD at hv
  obtain ⟨y1, y2⟩ := hy
  obtain ⟨m1, m2⟩ := hm
  by_cases a1 : y < 1
  · have HV : Hid (v = 0) := Lib.hid (by rw [hv, if_neg (by omega)])
    clear hv
    go_enter Tryz.func197, Tryz.ntmps197
    go_wp2_with fail
    go_ret
    exact ⟨ret_int HV.out.symm, rfl⟩
  by_cases a2 : 275760 < y
  · have HV : Hid (v = 0) := Lib.hid (by rw [hv, if_neg (by omega)])
    clear hv
    go_enter Tryz.func197, Tryz.ntmps197
    go_wp2_with fail
    go_ret
    exact ⟨ret_int HV.out.symm, rfl⟩
  by_cases a3 : m < 1
  · have HV : Hid (v = 0) := Lib.hid (by rw [hv, if_neg (by omega)])
    clear hv
    go_enter Tryz.func197, Tryz.ntmps197
    go_wp2_with fail
    go_ret
    exact ⟨ret_int HV.out.symm, rfl⟩
  by_cases a4 : 12 < m
  · have HV : Hid (v = 0) := Lib.hid (by rw [hv, if_neg (by omega)])
    clear hv
    go_enter Tryz.func197, Tryz.ntmps197
    go_wp2_with fail
    go_ret
    exact ⟨ret_int HV.out.symm, rfl⟩
  rw [if_pos (by omega)] at hv
  have hl := rlen_any y m (by omega) (by omega) ⟨by omega, by omega⟩ w
  rw [← hv] at hl
  clear hv
  go_enter Tryz.func197, Tryz.ntmps197
  go_wp2_with fail
  refine hl.mono ?_
  rintro e w' ⟨rfl, rfl⟩
  go_wp2_with fail
  go_ret
  exact ⟨rfl, rfl⟩

theorem newY_calc (y : Int) (_h : 1 ≤ y) : newY y = (y - 1) * 365 + (y - 1) / 4 - (y - 1) / 100 + (y - 1) / 400 - 719162 := rfl
set_option maxHeartbeats 800000 in
theorem rnew_any (y : Int) (h1 : 1 ≤ y) (h2 : y ≤ 300000) (w : World) :
    Calls Tryz.prog 141 #[.int .i64 y] w fun e w' => e = .returned (.int .i64 (newY y)) ∧ w = w' := by
  have HV := Lib.hid (newY_calc y h1)
  go_enter Tryz.func141, Tryz.ntmps141
  go_wp2_with fail
  go_ret
  exact ⟨ret_int (by rw [HV.out]), rfl⟩

set_option maxHeartbeats 800000 in
theorem rweekday_any (n : Int) (h : int64 n) (w : World) :
    Calls Tryz.prog 98 #[.int .i64 n] w fun e w' => e = .returned (.int .i64 (wd n)) ∧ w = w' := by
  obtain ⟨n1, n2⟩ := h
  have h2 := tmod7 n
  rcases tm7 n with ⟨g1, g2⟩ | ⟨g1, g2, g3⟩
  · have hw : wd n = (n.tmod 7 + 3) % 7 + 1 := by unfold wd; omega
    have G := Lib.hid hw
    clear hw g2
    go_enter Tryz.func98, Tryz.ntmps98
    go_wp2_with fail
    go_ret
    exact ⟨ret_int (by rw [G.out]), rfl⟩
  · have hw : wd n = (n.tmod 7 + 7 + 3) % 7 + 1 := by unfold wd; omega
    have G := Lib.hid hw
    clear hw g2 g3
    go_enter Tryz.func98, Tryz.ntmps98
    go_wp2_with fail
    go_ret
    exact ⟨ret_int (by rw [G.out]), rfl⟩
end Go.Proofs.YtfmelhpegcpbiaaGreatDoor.days
