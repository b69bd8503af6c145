/- The contract of the reference's Week. -/
import Derived.Test.YtbhdoocajfkfiaaGreatDoorZRWeek2
import Derived.Laws.ResultCell
namespace Go.Proofs.YtbhdoocajfkfiaaGreatDoor.days
open Go.ChangeShapes Go.WideShapes Go.ChangeAt Go.RowKit Go.Lib Go.Proofs.YtbhdoocajfkfiaaGreatDoor.cal

theorem yearW_in (n : Int) (h1 : -719162 ≤ n) (h2 : n < 100000107) : 1 ≤ (dateOf n).1 ∧ (dateOf n).1 ≤ 275760 ∧ (dateOf n).1 - 1 ≤ yearW (dateOf n).1 n ∧ yearW (dateOf n).1 n ≤ (dateOf n).1 + 1 ∧ 1 ≤ yearW (dateOf n).1 n ∧ firstW (yearW (dateOf n).1 n) ≤ n ∧ n < firstW (yearW (dateOf n).1 n + 1) := by
  obtain ⟨y1, y2, _⟩ := dateOf_bounds n h1 (by omega)
  have a := num_year _ _ _ (date_ok n h1).1
  rw [(date_ok n h1).2.1] at a
  have hy := yearW_ok _ n a.1 a.2
  generalize (dateOf n).1 = y at *
  have h0 : y = 1 → ¬ n < firstW y := by rintro rfl; rw [firstW_1]; omega
  refine ⟨y1, y2, ?_, ?_, ?_, hy.1, hy.2⟩
  all_goals (unfold yearW; split; first | omega | skip)
  all_goals first | omega | (split <;> omega) | skip

theorem ret_ae {a b d a' b' d' : Int} (h1 : a = a') (h2 : b = b') (h4 : d = d') : Ending.returned (.tuple #[.agg #[.int .i64 a, .int .i64 b, .int .i64 0], .int .i64 d]) = .returned (.tuple #[.agg #[.int .i64 a', .int .i64 b', .int .i64 0], .int .i64 d']) := by rw [h1, h2, h4]

set_option maxHeartbeats 1600000 in
set_option maxRecDepth 100000 in
theorem rweek_any (n : Int) (hn : int64 n) (w : World) :
    Calls Tryz.prog 167 #[.int .i64 n] w fun e w' => e = .returned (.tuple #[.agg #[.int .i64 (weekE n).1.1, .int .i64 (weekE n).1.2, .int .i64 0], .int .i64 (weekE n).2]) ∧ Below w.heap.size w w' := by
  obtain ⟨v, hv⟩ : ∃ v, v = weekE n := ⟨_, rfl⟩
  rw [← hv]
  unfold weekE at hv
  have f1 := fun w => rfirst_any 1 (by decide) (by decide) w
  have f2 := fun w => rfirst_any 275761 (by decide) (by decide) w
  rw [firstW_1] at f1
  rw [firstW_end] at f2
  have hyr := fun w => ryear_any n hn w
  have hnew := fun w => rnew_any 1 (by decide) (by decide) w
  rw [show newY 1 = -719162 from by decide] at hnew
  obtain ⟨n1, n2⟩ := hn
  by_cases h1 : n < -719162
  · have HV : Hid (v = ((0, 0), 2)) := Lib.hid (by rw [hv, if_neg (by omega)])
    clear hv
    go_enter Tryz.func167, Tryz.ntmps167
    go_wp2_with fail
    refine (f1 _).mono ?_
    rintro e w' ⟨rfl, rfl⟩
    go_wp2_with fail
    (try simp only [Exit.inBlock, Exit.then])
    refine bodyPost_ret (v := .tuple #[.agg #[.int .i64 0, .int .i64 0, .int .i64 0], .int .i64 2]) (by rw [results_cell_tmp rfl]; go_simp) rfl ?_
    exact ⟨ret_ae (by rw [HV.out]) (by rw [HV.out]) (by rw [HV.out]), (Below.refl _ _).alloc (Nat.le_refl _) _⟩
  by_cases h2 : 100000107 ≤ n
  · have HV : Hid (v = ((0, 0), 2)) := Lib.hid (by rw [hv, if_neg (by omega)])
    clear hv
    go_enter Tryz.func167, Tryz.ntmps167
    go_wp2_with fail
    refine (f1 _).mono ?_
    rintro e w' ⟨rfl, rfl⟩
    go_wp2_with fail
    refine (f2 _).mono ?_
    rintro e w' ⟨rfl, rfl⟩
    go_wp2_with fail
    (try simp only [Exit.inBlock, Exit.then])
    refine bodyPost_ret (v := .tuple #[.agg #[.int .i64 0, .int .i64 0, .int .i64 0], .int .i64 2]) (by rw [results_cell_tmp rfl]; go_simp) rfl ?_
    exact ⟨ret_ae (by rw [HV.out]) (by rw [HV.out]) (by rw [HV.out]), (Below.refl _ _).alloc (Nat.le_refl _) _⟩
  rw [if_pos (by omega)] at hv
  have hye : yearE n = (dateOf n).1 := by unfold yearE; rw [if_pos (by omega)]
  rw [hye] at hyr
  obtain ⟨y1, y2, k1, k2, k3, k4, k5⟩ := yearW_in n (by omega) (by omega)
  generalize (dateOf n).1 = y at *
  generalize yearW y n = K at *
  have HV := Lib.hid hv
  have HM : Hid (∀ k, k < K → firstW (k + 1) ≤ n) := Lib.hid (by
    intro k g
    rcases Int.lt_or_eq_of_le (show k + 1 ≤ K by omega) with q | q
    · have := firstW_mono _ _ q; omega
    · rw [q]; exact k4)
  have n3 : -719162 ≤ n := by omega
  have n4 : n < 100000107 := by omega
  have H4 := Lib.hid k4
  have H5 := Lib.hid k5
  clear hv hye h1 h2 k4 k5
  go_enter Tryz.func167, Tryz.ntmps167
  go_wp2_with fail
  refine (f1 _).mono ?_
  rintro e w' ⟨rfl, rfl⟩
  go_wp2_with fail
  refine (f2 _).mono ?_
  rintro e w' ⟨rfl, rfl⟩
  go_wp2_with fail
  refine (hnew _).mono ?_
  rintro e w' ⟨rfl, rfl⟩
  go_wp2_with fail
  refine (hyr _).mono ?_
  rintro e w' ⟨rfl, rfl⟩
  clear f1 f2 hnew hyr
  go_wp2_with fail
  go_loopw [5] (fun s5 wr => ∃ k : Int, s5 = .int .i64 k ∧ y - 1 ≤ k ∧ k ≤ K ∧ wr = w.alloc (.cells #[.int .i64 0, .int .i64 0, .int .i64 0] 149)) (fun a => fun _ => (300000 - RowKit.intOf a).toNat)
  case atStart => exact ⟨y - 1, rfl, by omega, by omega, rfl⟩
  case round =>
    obtain ⟨k, rfl, m1, m2, rfl⟩ := hrel
    rcases Int.lt_or_eq_of_le m2 with g | g
    · by_cases k0 : 0 < k
      · have g1 := fun w => rfirst_any k (by omega) (by omega) w
        have g2 := fun w => rfirst_any (k + 1) (by omega) (by omega) w
        have q1 := HM.out k g
        have q2 := firstW_lt k
        obtain ⟨b1, b2⟩ := firstW_bound k (by omega) (by omega)
        obtain ⟨b3, b4⟩ := firstW_bound (k + 1) (by omega) (by omega)
        generalize firstW k = a at *
        generalize firstW (k + 1) = b at *
        go_wp2_with fail
        refine (g1 _).mono ?_
        rintro e w' ⟨rfl, rfl⟩
        go_wp2_with fail
        refine (g2 _).mono ?_
        rintro e w' ⟨rfl, rfl⟩
        go_wp2_with fail
        go_roundw
        case rel => exact ⟨_, rfl, by omega, by omega, by first | rfl | trivial⟩
        case measure => simp [RowKit.intOf]; omega
      · go_wp2_with fail
        go_roundw
        case rel => exact ⟨_, rfl, by omega, by omega, by first | rfl | trivial⟩
        case measure => simp [RowKit.intOf]; omega
    · subst g
      have g1 := fun w => rfirst_any k (by omega) (by omega) w
      have g2 := fun w => rfirst_any (k + 1) (by omega) (by omega) w
      have q1 := H4.out
      have q2 := H5.out
      obtain ⟨b1, b2⟩ := firstW_bound k (by omega) (by omega)
      obtain ⟨b3, b4⟩ := firstW_bound (k + 1) (by omega) (by omega)
      clear HM H4 H5
      generalize firstW k = a at *
      generalize firstW (k + 1) = b at *
      have hpos : 0 ≤ n - a := by omega
      go_wp2_with fail
      refine (g1 _).mono ?_
      rintro e w' ⟨rfl, rfl⟩
      go_wp2_with fail
      refine (g2 _).mono ?_
      rintro e w' ⟨rfl, rfl⟩
      go_wp2_with fail
      refine (g1 _).mono ?_
      rintro e w' ⟨rfl, rfl⟩
      go_wp2_with fail
      (try simp only [Exit.inBlock, Exit.then])
      refine bodyPost_ret (v := .tuple #[.agg #[.int .i64 k, .int .i64 ((n - a) / 7 + 1), .int .i64 0], .int .i64 0]) (by rw [results_cell_tmp rfl]; go_simp) rfl ?_
      exact ⟨ret_ae (by rw [HV.out]) (by rw [HV.out]) (by rw [HV.out]), (Below.refl _ _).alloc (Nat.le_refl _) _⟩
end Go.Proofs.YtbhdoocajfkfiaaGreatDoor.days
