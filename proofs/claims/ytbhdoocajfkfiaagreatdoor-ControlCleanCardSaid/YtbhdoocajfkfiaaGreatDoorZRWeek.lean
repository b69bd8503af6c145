/- The contracts of the reference's Date, first, Weeks, Monday, Week. -/
import Derived.Test.YtbhdoocajfkfiaaGreatDoorNf
import Derived.Laws.ResultCell
namespace Go.Proofs.YtbhdoocajfkfiaaGreatDoor.days
open Go.ChangeShapes Go.WideShapes Go.ChangeAt Go.RowKit Go.Lib Go.Proofs.YtbhdoocajfkfiaaGreatDoor.cal

theorem ret_ai {a b c d a' b' c' d' : Int} (h1 : a = a') (h2 : b = b') (h3 : c = c') (h4 : d = d') : Ending.returned (.tuple #[.agg #[.int .i64 a, .int .i64 b, .int .i64 c], .int .i64 d]) = .returned (.tuple #[.agg #[.int .i64 a', .int .i64 b', .int .i64 c'], .int .i64 d']) := by rw [h1, h2, h3, h4]

theorem date_is (n y m r : Int) (h1 : 1 ≤ m) (h2 : m ≤ 12) (h3 : 0 ≤ r) (h4 : r < mlen y m) (h5 : n = newY y + cum y m + r) (h6 : -719162 ≤ n) : dateOf n = (y, m, r + 1) := by
  have a := date_ok n h6
  have b : okD y m (r + 1) := ⟨h1, h2, by omega, by omega⟩
  have c : numD (dateOf n).1 (dateOf n).2.1 (dateOf n).2.2 = numD y m (r + 1) := by rw [a.2.1]; unfold numD; omega
  obtain ⟨e1, e2, e3⟩ := num_inj _ _ _ _ _ _ a.1 b c
  rw [← e1, ← e2, ← e3]

set_option maxHeartbeats 1600000 in
set_option maxRecDepth 100000 in
theorem rdate_any (n : Int) (hn : int64 n) (w : World) :
    Calls Tryz.prog 164 #[.int .i64 n] w fun e w' => e = .returned (.tuple #[.agg #[.int .i64 (dateE n).1.1, .int .i64 (dateE n).1.2.1, .int .i64 (dateE n).1.2.2], .int .i64 (dateE n).2]) ∧ Below w.heap.size w w' := by
  obtain ⟨v, hv⟩ : ∃ v, v = dateE n := ⟨_, rfl⟩
  rw [← hv]
  unfold dateE at hv
  have hy := fun w => ryear_any n hn w
  have hye : yearE n = if -719162 ≤ n ∧ n < 100000475 then (dateOf n).1 else 0 := rfl
  obtain ⟨n1, n2⟩ := hn
  by_cases h1 : -719162 ≤ n ∧ n < 100000475
  · rw [if_pos h1] at hye
    obtain ⟨a, b, c⟩ := date_ok n h1.1
    have ha := num_year _ _ _ a
    rw [b] at ha
    by_cases h2 : n ≤ 100000109
    · rw [if_pos ⟨h1.1, h2⟩] at hv
      have hb := dateOf_bounds n h1.1 h2
      rw [hye] at hy
      generalize hyd : (dateOf n).1 = y at *
      obtain ⟨y1, y2, _⟩ := hb
      have hnew := fun w => rnew_any y y1 (by omega) w
      have hlen := fun k (h : 1 ≤ k ∧ k ≤ 12) w => rlen_any y k y1 (by omega) h w
      have hnx := newY_next y
      have HD : Hid (∀ m r, 1 ≤ m → m ≤ 12 → 0 ≤ r → r < mlen y m → n = newY y + cum y m + r → dateOf n = (y, m, r + 1)) := Lib.hid (fun m r a b c d e => date_is n y m r a b c d e h1.1)
      have HC1 : Hid (cum y 1 = 0) := Lib.hid rfl
      have HCN : Hid (∀ k, 1 ≤ k → k ≤ 11 → cum y (k + 1) = cum y k + mlen y k) := Lib.hid (fun k => cum_next y k)
      have HML : Hid (∀ k, 28 ≤ mlen y k ∧ mlen y k ≤ 31) := Lib.hid (mlen_pos y)
      have hcl := cum_last y
      have HLAST : Hid (n - newY y < cum y 12 + mlen y 12) := Lib.hid (by rw [hcl]; omega)
      have ty : (y == 0) = false := by simp; omega
      obtain ⟨b1, b2⟩ := newY_bound y y1 (by omega)
      have hlo := ha.1
      have HV : Hid (v = (dateOf n, 0)) := Lib.hid hv
      obtain ⟨N, hN⟩ : ∃ N, N = newY y := ⟨_, rfl⟩
      rw [← hN] at hnew HD HLAST hlo b1 b2
      have hrb : n - N ≤ 400 := by rw [hN]; rw [hnx] at ha; split at ha <;> omega
      obtain ⟨h1a, h1b⟩ := h1
      clear hv a b c ha hye hyd hnx hcl hN
      go_enter Tryz.func164, Tryz.ntmps164
      go_wp2_with fail
      refine (hy _).mono ?_
      rintro e w' ⟨rfl, rfl⟩
      go_wp2_with fail
      refine (hnew _).mono ?_
      rintro e w' ⟨rfl, rfl⟩
      clear hy hnew
      go_wp2_with fail
      go_loopw [5, 6] (fun s5 s6 wr => ∃ r m : Int, s5 = .int .i64 r ∧ s6 = .int .i64 m ∧ 1 ≤ m ∧ m ≤ 12 ∧ 0 ≤ r ∧ r ≤ 400 ∧ Hid (n = N + cum y m + r) ∧ wr = w.alloc (.cells #[.int .i64 0, .int .i64 0, .int .i64 0] 149)) (fun a _ => fun _ => (RowKit.intOf a).toNat)
      case atStart => exact ⟨n - N, 1, rfl, rfl, by omega, by omega, by omega, by omega, Lib.hid (by rw [HC1.out]; omega), rfl⟩
      case round =>
        obtain ⟨r, m, rfl, rfl, m1, m2, r1, r2, hh, rfl⟩ := hrel
        have hcall := hlen m ⟨m1, m2⟩ (w.alloc (.cells #[.int .i64 0, .int .i64 0, .int .i64 0] 149))
        have hml := HML.out m
        by_cases hlt : mlen y m ≤ r
        · have hm11 : m ≤ 11 := by
            rcases Int.lt_or_le 11 m with g | g
            · exfalso
              have e : m = 12 := by omega
              have := HLAST.out
              have := hh.out
              rw [e] at this hlt
              omega
            · exact g
          have hx := HCN.out m m1 hm11
          have HX : Hid (n = N + cum y (m + 1) + (r - mlen y m)) := Lib.hid (by rw [hx]; have := hh.out; omega)
          generalize mlen y m = q at *
          clear hx hh
          obtain ⟨q1, q2⟩ := hml
          go_wp2_with fail
          refine hcall.mono ?_
          rintro e w' ⟨rfl, rfl⟩
          go_wp2_with fail
          refine hcall.mono ?_
          rintro e w' ⟨rfl, rfl⟩
          go_wp2_with fail
          go_roundw
          case rel => exact ⟨_, m + 1, rfl, rfl, by omega, by omega, by omega, by omega, HX, by first | rfl | trivial⟩
          case measure => simp [RowKit.intOf]; omega
        · have HX : Hid (v = ((y, m, r + 1), 0)) := Lib.hid (by rw [HV.out, HD.out m r m1 m2 r1 (by omega) hh.out])
          generalize mlen y m = q at *
          clear hh
          go_wp2_with fail
          refine hcall.mono ?_
          rintro e w' ⟨rfl, rfl⟩
          go_wp2_with fail
          (try simp only [Exit.inBlock, Exit.then])
          refine bodyPost_ret (v := .tuple #[.agg #[.int .i64 y, .int .i64 m, .int .i64 (r + 1)], .int .i64 0]) (by rw [results_cell_tmp rfl]; go_simp) rfl ?_
          exact ⟨ret_ai (by rw [HX.out]) (by rw [HX.out]) (by rw [HX.out]) (by rw [HX.out]), (Below.refl _ _).alloc (Nat.le_refl _) _⟩
    · rw [if_neg (fun g => h2 g.2)] at hv
      have HV := Lib.hid hv
      have hbig : 275760 < yearE n := by
        rw [hye]
        rcases Int.lt_or_le 275760 (dateOf n).1 with g | g
        · exact g
        · exfalso
          have := newY_le ((dateOf n).1 + 1) 275761 (by omega)
          have e : newY 275761 = 100000110 := by decide
          omega
      clear hv hye
      generalize yearE n = y at *
      have ty : (y == 0) = false := by simp; omega
      go_enter Tryz.func164, Tryz.ntmps164
      go_wp2_with fail
      refine (hy _).mono ?_
      rintro e w' ⟨rfl, rfl⟩
      go_wp2_with fail
      (try simp only [Exit.inBlock, Exit.then])
      refine bodyPost_ret (v := .tuple #[.agg #[.int .i64 0, .int .i64 0, .int .i64 0], .int .i64 2]) (by rw [results_cell_tmp rfl]; go_simp) rfl ?_
      exact ⟨ret_ai (by rw [HV.out]) (by rw [HV.out]) (by rw [HV.out]) (by rw [HV.out]), (Below.refl _ _).alloc (Nat.le_refl _) _⟩
  · rw [if_neg h1] at hye
    rw [hye] at hy
    rw [if_neg (fun g => h1 ⟨g.1, by omega⟩)] at hv
    have HV := Lib.hid hv
    clear hv hye
    go_enter Tryz.func164, Tryz.ntmps164
    go_wp2_with fail
    refine (hy _).mono ?_
    rintro e w' ⟨rfl, rfl⟩
    go_wp2_with fail
    (try simp only [Exit.inBlock, Exit.then])
    refine bodyPost_ret (v := .tuple #[.agg #[.int .i64 0, .int .i64 0, .int .i64 0], .int .i64 2]) (by rw [results_cell_tmp rfl]; go_simp) rfl ?_
    exact ⟨ret_ai (by rw [HV.out]) (by rw [HV.out]) (by rw [HV.out]) (by rw [HV.out]), (Below.refl _ _).alloc (Nat.le_refl _) _⟩

set_option maxHeartbeats 1600000 in
set_option maxRecDepth 100000 in
theorem rfirst_any (y : Int) (h1 : 1 ≤ y) (h2 : y ≤ 300000) (w : World) :
    Calls Tryz.prog 229 #[.int .i64 y] w fun e w' => e = .returned (.int .i64 (firstW y)) ∧ w = w' := by
  have hc := rnew_any y h1 h2 w
  obtain ⟨b1, b2⟩ := newY_bound y h1 h2
  have HV : Hid (firstW y = newY y + 3 - wd (newY y + 3) + 1) := Lib.hid rfl
  have hwb : 1 ≤ wd (newY y + 3) ∧ wd (newY y + 3) ≤ 7 := by unfold wd; omega
  have hwd := fun n (h : int64 n) w => rweekday_any n h w
  generalize newY y = N at *
  obtain ⟨u1, u2⟩ := hwb
  go_enter Tryz.func229, Tryz.ntmps229
  go_wp2_with fail
  refine hc.mono ?_
  rintro e w' ⟨rfl, rfl⟩
  clear hc
  go_wp2_with fail
  go_loopw [3] (fun s3 wr => ∃ n : Int, s3 = .int .i64 n ∧ N - 10 ≤ n ∧ n ≤ N + 3 ∧ Hid (n - wd n = N + 3 - wd (N + 3)) ∧ wr = w) (fun a => fun _ => (RowKit.intOf a + 800000).toNat)
  case atStart => exact ⟨N + 3, rfl, by omega, by omega, Lib.hid rfl, rfl⟩
  case round =>
    obtain ⟨n, rfl, a1, a2, hh, rfl⟩ := hrel
    have hcall := hwd n ⟨by omega, by omega⟩ wr
    have hx := hh.out
    by_cases hd : wd n = 1
    · rw [hd] at hcall
      have HX : Hid (firstW y = n) := Lib.hid (by rw [HV.out]; omega)
      clear hh hx hd
      go_wp2_with fail
      refine hcall.mono ?_
      rintro e w' ⟨rfl, rfl⟩
      go_wp2_with fail
      go_ret
      exact ⟨ret_int HX.out.symm, rfl⟩
    · have hstep : wd (n - 1) = wd n - 1 := by unfold wd at hd ⊢; omega
      have HX : Hid ((n - 1) - wd (n - 1) = N + 3 - wd (N + 3)) := Lib.hid (by rw [hstep]; omega)
      have hlow : N - 10 ≤ n - 1 := by
        have : 1 ≤ wd n := by unfold wd; omega
        omega
      have td : (wd n != 1) = true := by simpa using hd
      clear hh hx hd hstep
      generalize wd n = q at *
      go_wp2_with fail
      refine hcall.mono ?_
      rintro e w' ⟨rfl, rfl⟩
      go_wp2_with fail
      go_roundw
      case rel => exact ⟨_, rfl, by omega, by omega, HX, by first | rfl | trivial⟩
      case measure => simp [RowKit.intOf]; omega
end Go.Proofs.YtbhdoocajfkfiaaGreatDoor.days
