/- The contracts of the reference's days: leap, length, Length, New, Number, Weekday, first, Weeks, Monday. The contracts of the reference's Number, Year, Date, first, Weeks, Monday, Week. -/
import Derived.Test.YtbhdoocajfkfiaaGreatDoorZWeek
namespace Go.Proofs.YtbhdoocajfkfiaaGreatDoor.days
open Go.ChangeShapes Go.WideShapes Go.ChangeAt Go.RowKit Go.Lib Go.Proofs.YtbhdoocajfkfiaaGreatDoor.cal

set_option maxHeartbeats 800000 in
theorem rleap_any (y : Int) (h1 : 1 ≤ y) (h2 : y ≤ 300000) (w : World) :
    Calls Tryz.prog 271 #[.int .i64 y] w fun e w' => e = .returned (.bool (decide (leapP y))) ∧ w = w' := by
  obtain ⟨v, hv⟩ : ∃ v, v = decide (leapP y) := ⟨_, rfl⟩
  rw [← hv]
  by_cases g400 : y % 400 = 0
  · have t400 : (y % 400 == 0) = true := by simpa using g400
    have HV : Hid (v = true) := Lib.hid (by rw [hv]; exact decide_eq_true (show leapP y from Or.inl g400))
    clear hv g400
    go_enter Tryz.func271, Tryz.ntmps271
    go_wp2_with fail
    go_ret
    exact ⟨ret_bool HV.out.symm, rfl⟩
  · have t400 : (y % 400 == 0) = false := by simpa using g400
    by_cases g4 : y % 4 = 0
    · have t4 : (y % 4 == 0) = true := by simpa using g4
      have HV : Hid (v = (y % 100 != 0)) := Lib.hid (by
        rw [hv]
        by_cases g : y % 100 = 0
        · rw [decide_eq_false (show ¬ leapP y from fun h => h.elim g400 (fun k => k.2 g))]; simp [g]
        · rw [decide_eq_true (show leapP y from Or.inr ⟨g4, g⟩)]; simp [g])
      clear hv g4 g400
      go_enter Tryz.func271, Tryz.ntmps271
      go_wp2_with fail
      go_ret
      exact ⟨ret_bool HV.out.symm, rfl⟩
    · have t4 : (y % 4 == 0) = false := by simpa using g4
      have HV : Hid (v = false) := Lib.hid (by rw [hv]; exact decide_eq_false (show ¬ leapP y from fun h => by unfold leapP at h; omega))
      clear hv g4 g400
      go_enter Tryz.func271, Tryz.ntmps271
      go_wp2_with fail
      go_ret
      exact ⟨ret_bool HV.out.symm, rfl⟩

set_option maxHeartbeats 1600000 in
theorem rlen_any (y m : Int) (h1 : 1 ≤ y) (h2 : y ≤ 300000) (hm : 1 ≤ m ∧ m ≤ 12) (w : World) :
    Calls Tryz.prog 228 #[.int .i64 y, .int .i64 m] w fun e w' => e = .returned (.int .i64 (mlen y m)) ∧ w = w' := by
  obtain ⟨v, hv⟩ : ∃ v, v = mlen y m := ⟨_, rfl⟩
  rw [← hv]
  have hl := rleap_any y h1 h2 w
  obtain ⟨m1, m2⟩ := hm
  have hmm : m = 1 ∨ m = 2 ∨ m = 3 ∨ m = 4 ∨ m = 5 ∨ m = 6 ∨ m = 7 ∨ m = 8 ∨ m = 9 ∨ m = 10 ∨ m = 11 ∨ m = 12 := by omega
  clear m1 m2
  by_cases g2 : m = 2
  · subst g2
    by_cases hp : leapP y
    · rw [decide_eq_true hp] at hl
      have HV : Hid (v = 29) := Lib.hid (by rw [hv]; simp [mlen, hp])
      clear hv hp hmm
      go_enter Tryz.func228, Tryz.ntmps228
      go_wp2_with fail
      refine hl.mono ?_
      rintro e w' ⟨rfl, rfl⟩
      go_wp2_with fail
      go_ret
      exact ⟨ret_int HV.out.symm, rfl⟩
    · rw [decide_eq_false hp] at hl
      have HV : Hid (v = 28) := Lib.hid (by rw [hv]; simp [mlen, hp])
      clear hv hp hmm
      go_enter Tryz.func228, Tryz.ntmps228
      go_wp2_with fail
      refine hl.mono ?_
      rintro e w' ⟨rfl, rfl⟩
      go_wp2_with fail
      go_ret
      exact ⟨ret_int HV.out.symm, rfl⟩
  · clear hl
    rcases hmm with rfl | rfl | rfl | rfl | rfl | rfl | rfl | rfl | rfl | rfl | rfl | rfl
    case inr.inl => exact absurd rfl g2
    all_goals
      simp [mlen] at hv
      have HV := Lib.hid hv
      clear hv g2
      go_enter Tryz.func228, Tryz.ntmps228
      go_wp2_with fail
      go_ret
      exact ⟨ret_int HV.out.symm, rfl⟩

set_option maxHeartbeats 1600000 in
theorem rlength_any (y m : Int) (hy : int64 y) (hm : int64 m) (w : World) :
    Calls Tryz.prog 297 #[.int .i64 y, .int .i64 m] w fun e w' => e = .returned (.int .i64 (lenD y m)) ∧ w = w' := by
  obtain ⟨v, hv⟩ : ∃ v, v = lenD y m := ⟨_, rfl⟩
  rw [← hv]
  unfold lenD at hv
  obtain ⟨y1, y2⟩ := hy
  obtain ⟨m1, m2⟩ := hm
  by_cases a1 : y < 1
  · have HV : Hid (v = 0) := Lib.hid (by rw [hv, if_neg (by omega)])
    clear hv
    go_enter Tryz.func297, Tryz.ntmps297
    go_wp2_with fail
    go_ret
    exact ⟨ret_int HV.out.symm, rfl⟩
  by_cases a2 : 275760 < y
  · have HV : Hid (v = 0) := Lib.hid (by rw [hv, if_neg (by omega)])
    clear hv
    go_enter Tryz.func297, Tryz.ntmps297
    go_wp2_with fail
    go_ret
    exact ⟨ret_int HV.out.symm, rfl⟩
  by_cases a3 : m < 1
  · have HV : Hid (v = 0) := Lib.hid (by rw [hv, if_neg (by omega)])
    clear hv
    go_enter Tryz.func297, Tryz.ntmps297
    go_wp2_with fail
    go_ret
    exact ⟨ret_int HV.out.symm, rfl⟩
  by_cases a4 : 12 < m
  · have HV : Hid (v = 0) := Lib.hid (by rw [hv, if_neg (by omega)])
    clear hv
    go_enter Tryz.func297, Tryz.ntmps297
    go_wp2_with fail
    go_ret
    exact ⟨ret_int HV.out.symm, rfl⟩
  rw [if_pos (by omega)] at hv
  have hl := rlen_any y m (by omega) (by omega) ⟨by omega, by omega⟩ w
  rw [← hv] at hl
  clear hv
  go_enter Tryz.func297, Tryz.ntmps297
  go_wp2_with fail
  refine hl.mono ?_
  rintro e w' ⟨rfl, rfl⟩
  go_wp2_with fail
  go_ret
  exact ⟨rfl, rfl⟩

theorem newY_calc (y : Int) (_h : 1 ≤ y) : newY y = (y - 1) * 365 + (y - 1) / 4 - (y - 1) / 100 + (y - 1) / 400 - 719162 := rfl
set_option maxHeartbeats 800000 in
theorem rnew_any (y : Int) (h1 : 1 ≤ y) (h2 : y ≤ 300000) (w : World) :
    Calls Tryz.prog 227 #[.int .i64 y] w fun e w' => e = .returned (.int .i64 (newY y)) ∧ w = w' := by
  have HV := Lib.hid (newY_calc y h1)
  go_enter Tryz.func227, Tryz.ntmps227
  go_wp2_with fail
  go_ret
  exact ⟨ret_int (by rw [HV.out]), rfl⟩

set_option maxHeartbeats 800000 in
theorem rweekday_any (n : Int) (h : int64 n) (w : World) :
    Calls Tryz.prog 168 #[.int .i64 n] w fun e w' => e = .returned (.int .i64 (wd n)) ∧ w = w' := by
  obtain ⟨n1, n2⟩ := h
  have h2 := tmod7 n
  rcases tm7 n with ⟨g1, g2⟩ | ⟨g1, g2, g3⟩
  · have hw : wd n = (n.tmod 7 + 3) % 7 + 1 := by unfold wd; omega
    have G := Lib.hid hw
    clear hw g2
    go_enter Tryz.func168, Tryz.ntmps168
    go_wp2_with fail
    go_ret
    exact ⟨ret_int (by rw [G.out]), rfl⟩
  · have hw : wd n = (n.tmod 7 + 7 + 3) % 7 + 1 := by unfold wd; omega
    have G := Lib.hid hw
    clear hw g2 g3
    go_enter Tryz.func168, Tryz.ntmps168
    go_wp2_with fail
    go_ret
    exact ⟨ret_int (by rw [G.out]), rfl⟩
end Go.Proofs.YtbhdoocajfkfiaaGreatDoor.days

namespace Go.Proofs.YtbhdoocajfkfiaaGreatDoor.days
open Go.ChangeShapes Go.WideShapes Go.ChangeAt Go.RowKit Go.Lib Go.Proofs.YtbhdoocajfkfiaaGreatDoor.cal

set_option maxHeartbeats 1600000 in
set_option maxRecDepth 100000 in
theorem rnumber_any (y m d : Int) (hy : int64 y) (hm : int64 m) (hd : int64 d) (w : World) :
    Calls Tryz.prog 269 #[.int .i64 y, .int .i64 m, .int .i64 d] w fun e w' => e = .returned (.tuple #[.int .i64 (numE y m d).1, .int .i64 (numE y m d).2]) ∧ w = w' := by
  obtain ⟨v, hv⟩ : ∃ v, v = numE y m d := ⟨_, rfl⟩
  rw [← hv]
  unfold numE at hv
  have hl := rlength_any y m hy hm w
  obtain ⟨d1, d2⟩ := hd
  by_cases h1 : d < 1
  · have HV : Hid (v = (0, 2)) := Lib.hid (by rw [hv, if_neg (by omega)])
    clear hv hl
    go_enter Tryz.func269, Tryz.ntmps269
    go_wp2_with fail
    go_ret2
    exact ⟨ret_ii (by rw [HV.out]) (by rw [HV.out]), rfl⟩
  · by_cases h2 : lenD y m < d
    · have HV : Hid (v = (0, 2)) := Lib.hid (by
        rw [hv, if_neg]
        intro g
        unfold lenD at h2
        rw [if_pos ⟨g.1, g.2.1, g.2.2.1, g.2.2.2.1⟩] at h2
        omega)
      clear hv
      generalize lenD y m = k at *
      go_enter Tryz.func269, Tryz.ntmps269
      go_wp2_with fail
      refine hl.mono ?_
      rintro e w' ⟨rfl, rfl⟩
      go_wp2_with fail
      go_ret2
      exact ⟨ret_ii (by rw [HV.out]) (by rw [HV.out]), rfl⟩
    · have hok : 1 ≤ y ∧ y ≤ 275760 ∧ 1 ≤ m ∧ m ≤ 12 ∧ d ≤ mlen y m := by
        unfold lenD at h2
        split at h2
        · rename_i g; exact ⟨g.1, g.2.1, g.2.2.1, g.2.2.2, by omega⟩
        · omega
      obtain ⟨a1, a2, a3, a4, a5⟩ := hok
      have hml := mlen_pos y m
      rw [if_pos ⟨a1, a2, a3, a4, by omega, a5⟩] at hv
      have hc := rnew_any y a1 (by omega) w
      have hlen := fun k (h : 1 ≤ k ∧ k ≤ 12) w => rlen_any y k a1 (by omega) h w
      obtain ⟨b1, b2⟩ := newY_bound y a1 (by omega)
      have d31 : d ≤ 31 := by omega
      have HV : Hid (v = (newY y + cum y m + (d - 1), 0)) := Lib.hid hv
      have HC1 : Hid (cum y 1 = 0) := Lib.hid rfl
      have HCN : Hid (∀ k, 1 ≤ k → k ≤ 11 → cum y (k + 1) = cum y k + mlen y k) := Lib.hid (fun k => cum_next y k)
      have HML : Hid (∀ k, 28 ≤ mlen y k ∧ mlen y k ≤ 31) := Lib.hid (mlen_pos y)
      generalize lenD y m = k at *
      generalize newY y = N at *
      clear hv a5 hml
      go_enter Tryz.func269, Tryz.ntmps269
      go_wp2_with fail
      refine hl.mono ?_
      rintro e w' ⟨rfl, rfl⟩
      go_wp2_with fail
      refine hc.mono ?_
      rintro e w' ⟨rfl, rfl⟩
      clear hl hc
      go_wp2_with fail
      go_loopw [8, 9] (fun s8 s9 wr => ∃ k n : Int, s8 = .int .i64 n ∧ s9 = .int .i64 k ∧ 1 ≤ k ∧ k ≤ m ∧ n ≤ 120000000 + 31 * (k - 1) ∧ -719162 ≤ n ∧ Hid (n = N + cum y k) ∧ wr = w) (fun _ s => fun _ => (m - RowKit.intOf s).toNat)
      case atStart => exact ⟨1, N, rfl, rfl, by omega, by omega, by omega, by omega, Lib.hid (by rw [HC1.out]; omega), rfl⟩
      case round =>
        obtain ⟨k, n, rfl, rfl, hk1, hk2, hn1, hn2, hh, rfl⟩ := hrel
        by_cases hlt : k < m
        · have hcall := hlen k ⟨by omega, by omega⟩ wr
          have hml := HML.out k
          have hx := HCN.out k hk1 (by omega)
          have hn := hh.out
          generalize mlen y k = q at *
          have HX : Hid (n + q = N + cum y (k + 1)) := Lib.hid (by rw [hx, hn]; omega)
          clear hx hn hh
          obtain ⟨q1, q2⟩ := hml
          go_wp2_with fail
          refine hcall.mono ?_
          rintro e w' ⟨rfl, rfl⟩
          go_wp2_with fail
          go_roundw
          case rel => exact ⟨k + 1, n + q, rfl, rfl, by omega, by omega, by omega, by omega, HX, by first | rfl | trivial⟩
          case measure => simp [RowKit.intOf]; omega
        · have hkm : k = m := by omega
          have HX : Hid (v = (n + (d - 1), 0)) := Lib.hid (by rw [HV.out, hh.out, hkm])
          clear hh hkm
          go_wp2_with fail
          go_ret2
          exact ⟨ret_ii (by rw [HX.out]) (by rw [HX.out]), rfl⟩

/-- the year that has a number -/
theorem year_uniq (a b n : Int) (h1 : newY a ≤ n) (h2 : n < newY (a + 1)) (k1 : newY b ≤ n) (k2 : n < newY (b + 1)) : a = b := by
  rcases Int.lt_trichotomy a b with g | g | g
  · exfalso
    rcases Int.lt_or_eq_of_le (show a + 1 ≤ b by omega) with k | k
    · have := newY_mono _ _ k; omega
    · rw [k] at h2; omega
  · exact g
  · exfalso
    rcases Int.lt_or_eq_of_le (show b + 1 ≤ a by omega) with k | k
    · have := newY_mono _ _ k; omega
    · rw [k] at k2; omega
theorem newY_le (a b : Int) (h : a ≤ b) : newY a ≤ newY b := by
  rcases Int.lt_or_eq_of_le h with k | k
  · exact Int.le_of_lt (newY_mono _ _ k)
  · rw [k]; exact Int.le_refl _

def yearE (n : Int) : Int := if -719162 ≤ n ∧ n < 100000475 then (dateOf n).1 else 0
theorem newY_top : newY 275762 = 100000475 := by decide
theorem newY_one : newY 1 = -719162 := by decide

set_option maxHeartbeats 1600000 in
set_option maxRecDepth 100000 in
theorem ryear_any (n : Int) (hn : int64 n) (w : World) :
    Calls Tryz.prog 226 #[.int .i64 n] w fun e w' => e = .returned (.int .i64 (yearE n)) ∧ w = w' := by
  obtain ⟨v, hv⟩ : ∃ v, v = yearE n := ⟨_, rfl⟩
  rw [← hv]
  unfold yearE at hv
  have f1 := rnew_any 1 (by decide) (by decide) w
  have f2 := rnew_any 275762 (by decide) (by decide) w
  rw [newY_one] at f1
  rw [newY_top] at f2
  obtain ⟨n1, n2⟩ := hn
  by_cases h1 : n < -719162
  · have HV : Hid (v = 0) := Lib.hid (by rw [hv, if_neg (by omega)])
    clear hv
    go_enter Tryz.func226, Tryz.ntmps226
    go_wp2_with fail
    refine f1.mono ?_
    rintro e w' ⟨rfl, rfl⟩
    go_wp2_with fail
    go_ret
    exact ⟨ret_int HV.out.symm, rfl⟩
  by_cases h2 : 100000475 ≤ n
  · have HV : Hid (v = 0) := Lib.hid (by rw [hv, if_neg (by omega)])
    clear hv
    go_enter Tryz.func226, Tryz.ntmps226
    go_wp2_with fail
    refine f1.mono ?_
    rintro e w' ⟨rfl, rfl⟩
    go_wp2_with fail
    refine f2.mono ?_
    rintro e w' ⟨rfl, rfl⟩
    go_wp2_with fail
    go_ret
    exact ⟨ret_int HV.out.symm, rfl⟩
  rw [if_pos (by omega)] at hv
  have hy := num_year _ _ _ (date_ok n (by omega)).1
  rw [(date_ok n (by omega)).2.1, ← hv] at hy
  have HY := Lib.hid hy
  have H1 : Hid (newY 1 ≤ n) := Lib.hid (by rw [newY_one]; omega)
  have H2 : Hid (n < newY (275761 + 1)) := Lib.hid (by show n < newY 275762; rw [newY_top]; omega)
  have hnew := fun k (a : 1 ≤ k) (b : k ≤ 300000) w => rnew_any k a b w
  clear hv hy
  go_enter Tryz.func226, Tryz.ntmps226
  go_wp2_with fail
  refine f1.mono ?_
  rintro e w' ⟨rfl, rfl⟩
  go_wp2_with fail
  refine f2.mono ?_
  rintro e w' ⟨rfl, rfl⟩
  clear f1 f2
  go_wp2_with fail
  go_loopw [3, 4] (fun s3 s4 wr => ∃ lo hi : Int, s3 = .int .i64 lo ∧ s4 = .int .i64 hi ∧ 1 ≤ lo ∧ lo ≤ hi ∧ hi ≤ 275761 ∧ Hid (newY lo ≤ n ∧ n < newY (hi + 1)) ∧ wr = w) (fun a b => fun _ => (RowKit.intOf b - RowKit.intOf a).toNat)
  case atStart => exact ⟨1, 275761, rfl, rfl, by omega, by omega, by omega, Lib.hid ⟨H1.out, H2.out⟩, rfl⟩
  case round =>
    obtain ⟨lo, hi, rfl, rfl, a1, a2, a3, hh, rfl⟩ := hrel
    by_cases hlt : lo < hi
    · obtain ⟨mid, hmid⟩ : ∃ mid, mid = (lo + hi + 1) / 2 := ⟨_, rfl⟩
      have hcall := hnew ((lo + hi + 1) / 2) (by omega) (by omega) wr
      have m1 : lo < (lo + hi + 1) / 2 := by omega
      have m2 : (lo + hi + 1) / 2 ≤ hi := by omega
      by_cases hc : newY ((lo + hi + 1) / 2) ≤ n
      · have HX : Hid (newY ((lo + hi + 1) / 2) ≤ n ∧ n < newY (hi + 1)) := Lib.hid ⟨hc, hh.out.2⟩
        generalize newY ((lo + hi + 1) / 2) = p at hcall hc
        clear hmid hh
        go_wp2_with fail
        refine hcall.mono ?_
        rintro e w' ⟨rfl, rfl⟩
        go_wp2_with fail
        go_roundw
        case rel => exact ⟨_, hi, rfl, rfl, by omega, by omega, by omega, HX, by first | rfl | trivial⟩
        case measure => simp [RowKit.intOf]; omega
      · have HX : Hid (newY lo ≤ n ∧ n < newY ((lo + hi + 1) / 2 - 1 + 1)) := Lib.hid ⟨hh.out.1, by rw [show (lo + hi + 1) / 2 - 1 + 1 = (lo + hi + 1) / 2 from by omega]; omega⟩
        generalize newY ((lo + hi + 1) / 2) = p at hcall hc
        clear hmid hh
        go_wp2_with fail
        refine hcall.mono ?_
        rintro e w' ⟨rfl, rfl⟩
        go_wp2_with fail
        go_roundw
        case rel => exact ⟨lo, _, rfl, rfl, by omega, by omega, by omega, HX, by first | rfl | trivial⟩
        case measure => simp [RowKit.intOf]; omega
    · have he : lo = hi := by omega
      have HX : Hid (v = lo) := Lib.hid (by
        have := hh.out
        rw [← he] at this
        exact year_uniq v lo n HY.out.1 HY.out.2 this.1 this.2)
      clear hh he
      go_wp2_with fail
      go_ret
      exact ⟨ret_int HX.out.symm, rfl⟩
end Go.Proofs.YtbhdoocajfkfiaaGreatDoor.days
