/- The contracts of days.ends, Date, Week. -/
import Derived.Test.YtfmelhpegcpbiaaGreatDoorZDays
namespace Go.Proofs.YtfmelhpegcpbiaaGreatDoor.days
open Go.ChangeShapes Go.WideShapes Go.ChangeAt Go.RowKit Go.Lib Go.Proofs.YtfmelhpegcpbiaaGreatDoor.cal

def lastD : Int := 100000109
theorem last_eq : numD 275760 12 31 = lastD := by decide
theorem first_eq : numD 1 1 1 = -719162 := by decide

set_option maxHeartbeats 800000 in
theorem ends_any (w : World) :
    Calls Tryz.prog 136 #[] w fun e w' => e = .returned (.tuple #[.int .i64 (-719162), .int .i64 100000109]) ∧ w = w' := by
  have h1 := fun w => civil_any 1 1 1 (by decide) (by decide) (by decide) (by decide) (by decide) (by decide) w
  have h2 := fun w => civil_any 275760 12 31 (by decide) (by decide) (by decide) (by decide) (by decide) (by decide) w
  rw [last_eq] at h2
  rw [first_eq] at h1
  unfold lastD at h2
  go_enter Tryz.func136, Tryz.ntmps136
  go_wp2_with fail
  refine (h1 _).mono ?_
  rintro e w' ⟨rfl, rfl⟩
  go_wp2_with fail
  refine (h2 _).mono ?_
  rintro e w' ⟨rfl, rfl⟩
  go_wp2_with fail
  go_ret2
  exact ⟨rfl, rfl⟩

theorem results_tmp4 {fn : Func} {t u v x : Tmp} (h : fn.results = #[.tmp t, .tmp u, .tmp v, .tmp x]) (tmps : Array Value) (P : Program) (w : World) :
    (results fn tmps).run P w = .ok (.tuple #[tmps.getD t undef, tmps.getD u undef, tmps.getD v undef, tmps.getD x undef]) w := by
  simp [results, h]
theorem ret_4 {a b c d a' b' c' d' : Int} (h1 : a = a') (h2 : b = b') (h3 : c = c') (h4 : d = d') : Ending.returned (.tuple #[.int .i64 a, .int .i64 b, .int .i64 c, .int .i64 d]) = .returned (.tuple #[.int .i64 a', .int .i64 b', .int .i64 c', .int .i64 d']) := by rw [h1, h2, h3, h4]
theorem ret_3 {a b c a' b' c' : Int} (h1 : a = a') (h2 : b = b') (h3 : c = c') : Ending.returned (.tuple #[.int .i64 a, .int .i64 b, .int .i64 c]) = .returned (.tuple #[.int .i64 a', .int .i64 b', .int .i64 c']) := by rw [h1, h2, h3]

/-- the day of a number, and the error -/
def dateE (n : Int) : (Int × Int × Int) × Int := if -719162 ≤ n ∧ n ≤ 100000109 then (dateOf n, 0) else ((0, 0, 0), 2)
theorem dateOf_bounds (n : Int) (h1 : -719162 ≤ n) (h2 : n ≤ 100000109) : 1 ≤ (dateOf n).1 ∧ (dateOf n).1 ≤ 275760 ∧ 1 ≤ (dateOf n).2.1 ∧ (dateOf n).2.1 ≤ 12 ∧ 1 ≤ (dateOf n).2.2 ∧ (dateOf n).2.2 ≤ 31 := by
  obtain ⟨a, b, c⟩ := date_ok n h1
  have hy := num_year _ _ _ a
  rw [b] at hy
  obtain ⟨a1, a2, a3, a4⟩ := a
  have := mlen_pos (dateOf n).1 (dateOf n).2.1
  refine ⟨c, ?_, a1, a2, a3, by omega⟩
  rcases Int.lt_or_le 275760 (dateOf n).1 with g | g
  · exfalso
    have e : newY 275761 = 100000110 := by decide
    rcases Int.lt_or_eq_of_le (show 275761 ≤ (dateOf n).1 by omega) with k | k
    · have := newY_mono _ _ k; omega
    · rw [← k] at hy; omega
  · exact g

set_option maxHeartbeats 1600000 in
set_option maxRecDepth 100000 in
theorem date_any (n : Int) (hn : int64 n) (w : World) :
    Calls Tryz.prog 88 #[.int .i64 n] w fun e w' => e = .returned (.tuple #[.int .i64 (dateE n).1.1, .int .i64 (dateE n).1.2.1, .int .i64 (dateE n).1.2.2, .int .i64 (dateE n).2]) ∧ w = w' := by
  obtain ⟨v, hv⟩ : ∃ v, v = dateE n := ⟨_, rfl⟩
  rw [← hv]
  unfold dateE at hv
  have he := ends_any w
  obtain ⟨n1, n2⟩ := hn
  by_cases h1 : n < -719162
  · have HV : Hid (v = ((0, 0, 0), 2)) := Lib.hid (by rw [hv, if_neg (by omega)])
    clear hv
    go_enter Tryz.func88, Tryz.ntmps88
    go_wp2_with fail
    refine he.mono ?_
    rintro e w' ⟨rfl, rfl⟩
    go_wp2_with fail
    (try simp only [Exit.inBlock, Exit.then])
    refine bodyPost_ret (results_tmp4 rfl _ _ _) rfl ?_
    exact ⟨ret_4 (by rw [HV.out]) (by rw [HV.out]) (by rw [HV.out]) (by rw [HV.out]), rfl⟩
  by_cases h2 : 100000109 < n
  · have HV : Hid (v = ((0, 0, 0), 2)) := Lib.hid (by rw [hv, if_neg (by omega)])
    clear hv
    go_enter Tryz.func88, Tryz.ntmps88
    go_wp2_with fail
    refine he.mono ?_
    rintro e w' ⟨rfl, rfl⟩
    go_wp2_with fail
    (try simp only [Exit.inBlock, Exit.then])
    refine bodyPost_ret (results_tmp4 rfl _ _ _) rfl ?_
    exact ⟨ret_4 (by rw [HV.out]) (by rw [HV.out]) (by rw [HV.out]) (by rw [HV.out]), rfl⟩
  rw [if_pos (by omega)] at hv
  have HV := Lib.hid hv
  clear hv
  go_enter Tryz.func88, Tryz.ntmps88
  go_wp2_with fail
  refine he.mono ?_
  rintro e w' ⟨rfl, rfl⟩
  clear he
  obtain ⟨o, ho⟩ : ∃ o, o = (n + 719468) % 146097 := ⟨_, rfl⟩
  obtain ⟨e, he2⟩ : ∃ e, e = (n + 719468) / 146097 := ⟨_, rfl⟩
  obtain ⟨y, hy⟩ : ∃ y, y = (o - o / 1460 + o / 36524 - o / 146096) / 365 := ⟨_, rfl⟩
  obtain ⟨y1, y2, d1, d2, d3⟩ := year_of o y (by omega) (by omega) hy
  obtain ⟨dy, hdy⟩ : ∃ dy, dy = o - (365 * y + y / 4 - y / 100) := ⟨_, rfl⟩
  rw [← hdy] at d1 d2 d3
  obtain ⟨k, hk⟩ : ∃ k, k = (5 * dy + 2) / 153 := ⟨_, rfl⟩
  have hd : dateOf n = if k + 3 > 12 then (y + e * 400 + 1, k + 3 - 12, dy - (153 * k + 2) / 5 + 1) else (y + e * 400, k + 3, dy - (153 * k + 2) / 5 + 1) := by
    unfold dateOf
    simp only [← ho, ← he2, ← hy, ← hdy, ← hk]
  have HVV := HV
  clear HV
  have HD := Lib.hid hd
  have hn1 : -719162 ≤ n := by omega
  have hn2 : n ≤ 100000109 := by omega
  have e1 : 0 ≤ e := by omega
  have e2 : e ≤ 1000 := by omega
  have o1 : 0 ≤ o := by omega
  have o2 : o ≤ 146096 := by omega
  have k1 : 0 ≤ k := by omega
  have k2 : k ≤ 11 := by omega
  have HO := Lib.hid ho
  have HE := Lib.hid he2
  have HYY := Lib.hid hy
  have HDY := Lib.hid hdy
  have HK := Lib.hid hk
  clear ho he2 hy hdy hk hd d3 h1 h2
  go_upto_region 5 with fail
  go_cut [9] (fun s wx => s = .int .i64 e ∧ wx = w)
  case first =>
    go_wp2_with fail
    go_meet
    exact ⟨by rw [HE.out], rfl⟩
  case rest =>
  obtain ⟨rfl, rfl⟩ := hcut
  go_upto_region 6 with fail
  go_cut [10] (fun s wx => s = .int .i64 o ∧ wx = wc)
  case first =>
    go_wp2_with fail
    go_meet
    exact ⟨by rw [HO.out], rfl⟩
  case rest =>
  obtain ⟨rfl, rfl⟩ := hcut
  go_upto_region 7 with fail
  go_cut [11] (fun s wx => s = .int .i64 y ∧ wx = wc)
  case first =>
    go_wp2_with fail
    go_meet
    exact ⟨by rw [HYY.out], rfl⟩
  case rest =>
  obtain ⟨rfl, rfl⟩ := hcut
  go_upto_region 8 with fail
  go_cut [12] (fun s wx => s = .int .i64 dy ∧ wx = wc)
  case first =>
    go_wp2_with fail
    go_meet
    exact ⟨by rw [HDY.out], rfl⟩
  case rest =>
  obtain ⟨rfl, rfl⟩ := hcut
  go_upto_region 9 with fail
  go_cut [13] (fun s wx => s = .int .i64 k ∧ wx = wc)
  case first =>
    go_wp2_with fail
    go_meet
    exact ⟨by rw [HK.out], rfl⟩
  case rest =>
  obtain ⟨rfl, rfl⟩ := hcut
  by_cases g : 12 < k + 3
  · have HF : Hid (v = ((y + e * 400 + 1, k + 3 - 12, dy - (153 * k + 2) / 5 + 1), 0)) := Lib.hid (by rw [HVV.out, HD.out, if_pos g])
    go_wp2_with fail
    (try simp only [Exit.inBlock, Exit.then])
    refine bodyPost_ret (results_tmp4 rfl _ _ _) rfl ?_
    exact ⟨ret_4 (by rw [HF.out]) (by rw [HF.out]) (by rw [HF.out]) (by rw [HF.out]), rfl⟩
  · have HF : Hid (v = ((y + e * 400, k + 3, dy - (153 * k + 2) / 5 + 1), 0)) := Lib.hid (by rw [HVV.out, HD.out, if_neg g])
    go_wp2_with fail
    (try simp only [Exit.inBlock, Exit.then])
    refine bodyPost_ret (results_tmp4 rfl _ _ _) rfl ?_
    exact ⟨ret_4 (by rw [HF.out]) (by rw [HF.out]) (by rw [HF.out]) (by rw [HF.out]), rfl⟩
end Go.Proofs.YtfmelhpegcpbiaaGreatDoor.days
