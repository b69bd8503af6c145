/- The contract of the reference's Show: it answers what the program's does. -/
import Derived.Test.YtfmelhpegcpbiaaGreatDoorZRPad
import Derived.Test.YtfmelhpegcpbiaaGreatDoorMa
namespace Go.Proofs.YtfmelhpegcpbiaaGreatDoor.mom
open Go.ChangeShapes Go.WideShapes Go.ChangeAt Go.RowKit Go.Lib Go.Proofs.YtfmelhpegcpbiaaGreatDoor.num Go.Proofs.YtfmelhpegcpbiaaGreatDoor.cal Go.Proofs.YtfmelhpegcpbiaaGreatDoor.days

theorem rret_si {a b : List UInt8} {c d : Int} (h : a = b) (g : c = d) : Ending.returned (.tuple #[.string ⟨a.toArray⟩, .int .i64 c]) = .returned (.tuple #[.string ⟨b.toArray⟩, .int .i64 d]) := by rw [h, g]
/-- rounding down, as the reference does it -/
theorem floor_dec (n D : Int) (hD : 0 < D) : n / D = if (decide (n < 0) && decide (0 < n % D)) = true then n.tdiv D - 1 else n.tdiv D := by
  have h2 := Int.emod_lt_of_pos n hD
  have h3 := quo n D hD
  by_cases g : n < 0
  · have e1 : (-n).tmod D = -(n.tmod D) := Int.neg_tmod n D
    have e2 : 0 ≤ (-n).tmod D := Int.tmod_nonneg D (by omega)
    have e3 : (-n).tmod D < D := Int.tmod_lt_of_pos _ hD
    rw [decide_eq_true g, Bool.true_and]
    by_cases k : 0 < n % D
    · rw [if_pos (decide_eq_true k)]
      omega
    · rw [if_neg (by rw [decide_eq_false k]; decide)]
      omega
  · have e2 : 0 ≤ n.tmod D := Int.tmod_nonneg D (by omega)
    rw [if_neg (by rw [decide_eq_false g, Bool.false_and]; decide)]
    omega

set_option maxHeartbeats 3200000 in
set_option maxRecDepth 100000 in
theorem rshow_any (kind n : Int) (hk : int64 kind) (hn : int64 n) (w : World) :
    Calls Tryz.prog 54 #[.int .i64 kind, .int .i64 n] w fun e w' => e = .returned (.tuple #[.string ⟨(showM kind n).1.toArray⟩, .int .i64 (showM kind n).2]) ∧ Below w.heap.size w w' := by
  obtain ⟨v, hv⟩ : ∃ v, v = showM kind n := ⟨_, rfl⟩
  rw [← hv]
  have HV := Lib.hid hv
  clear hv
  obtain ⟨k1, k2⟩ := hk
  obtain ⟨n1, n2⟩ := hn
  by_cases b1 : kind < 1
  · have HN : Hid (v = ([], 3)) := Lib.hid (by rw [HV.out, show0 kind n (by omega)])
    go_enter Tryz.func54, Tryz.ntmps54
    go_wp2_with fail
    go_ret2
    exact ⟨rret_si (by rw [HN.out]) (by rw [HN.out]), Below.refl _ _⟩
  by_cases b2 : 5 < kind
  · have HN : Hid (v = ([], 3)) := Lib.hid (by rw [HV.out, show0 kind n (by omega)])
    go_enter Tryz.func54, Tryz.ntmps54
    go_wp2_with fail
    go_ret2
    exact ⟨rret_si (by rw [HN.out]) (by rw [HN.out]), Below.refl _ _⟩
  have hkk : kind = 1 ∨ kind = 2 ∨ kind = 3 ∨ kind = 4 ∨ kind = 5 := by omega
  clear b1 b2 k1 k2
  have hL := fun w => Go.Proofs.YtfmelhpegcpbiaaGreatDoor.fits.refleft_any n 86400000 w (by decide) (by decide) n1 n2
  have hM := fun w => Go.Proofs.YtfmelhpegcpbiaaGreatDoor.fits.refleft_any n 12 w (by decide) (by decide) n1 n2
  unfold Go.Proofs.YtfmelhpegcpbiaaGreatDoor.fits.lft at hL hM
  have hfl := floor_dec n 86400000 (by decide)
  have hfm := floor_dec n 12 (by decide)
  obtain ⟨d, hd⟩ : ∃ d, d = n / 86400000 := ⟨_, rfl⟩
  obtain ⟨r, hr⟩ : ∃ r, r = n % 86400000 := ⟨_, rfl⟩
  obtain ⟨y, hy⟩ : ∃ y, y = n / 12 := ⟨_, rfl⟩
  obtain ⟨m, hm⟩ : ∃ m, m = n % 12 := ⟨_, rfl⟩
  rw [← hr] at hL hfl
  rw [← hd] at hfl
  rw [← hm] at hM hfm
  rw [← hy] at hfm
  have hdi : int64 d := by unfold int64; omega
  have r1 : 0 ≤ r := by omega
  have r2 : r < 86400000 := by omega
  have m1 : 0 ≤ m := by omega
  have m2 : m < 12 := by omega
  have y1 : -800000000000000000 ≤ y := by omega
  have y2 : y ≤ 800000000000000000 := by omega
  have hda := fun w => rdate_any d hdi w
  have hwk := fun w => rweek_any d hdi w
  have hwd := fun w => rweekday_any d hdi w
  obtain ⟨Y, M, D, q1, q2, q3, hde⟩ := dateE_nat d
  have HDE := Lib.hid hde
  obtain ⟨e, he⟩ : ∃ e, e = (dateE d).2 := ⟨_, rfl⟩
  have hde2 : dateE d = (((Y : Int), (M : Int), (D : Int)), e) := by rw [he]; rcases hde with ⟨_, _, h, _⟩ | ⟨_, h⟩ <;> rw [h]
  rw [hde2] at hda
  dsimp only at hda
  have hee : (-719162 ≤ d ∧ d ≤ 100000109 ∧ e = 0) ∨ (¬ (-719162 ≤ d ∧ d ≤ 100000109) ∧ e = 2) := by
    rw [he]
    rcases hde with ⟨a, b, h, _⟩ | ⟨a, h⟩
    · rw [h]; exact .inl ⟨a, b, rfl⟩
    · rw [h]; exact .inr ⟨a, rfl⟩
  have HEE := Lib.hid hee
  have hD := fun w => rday_show Y M D (by omega) (by omega) (by omega) w
  have HFL := Lib.hid hfl
  have HFM := Lib.hid hfm
  have HD := Lib.hid hd
  have HR := Lib.hid hr
  have HY := Lib.hid hy
  have HM := Lib.hid hm
  have ht1 : -200000000000 ≤ n.tdiv 86400000 ∧ n.tdiv 86400000 ≤ 200000000000 := by
    have := quo n 86400000 (by decide); omega
  have ht2 : -800000000000000000 ≤ n.tdiv 12 ∧ n.tdiv 12 ≤ 800000000000000000 := by
    have := quo n 12 (by decide); omega
  obtain ⟨t1, t2⟩ := ht1
  obtain ⟨t3, t4⟩ := ht2
  clear hee hde he hde2 hfl hfm hd hr hy hm
  go_enter Tryz.func54, Tryz.ntmps54
  go_wp2_with fail
  refine (hL _).mono ?_
  rintro e' w' ⟨rfl, rfl⟩
  clear hL
  go_upto_region 5 with fail
  go_cut [29] (fun s29 wx => s29 = .bool (decide (n < 0) && decide (0 < r)) ∧ w = wx)
  case first =>
    by_cases g1 : n < 0
    · by_cases g2 : 0 < r
      · go_wp2_with fail
        go_meet
        exact ⟨by simp [g1, g2], rfl⟩
      · go_wp2_with fail
        go_meet
        exact ⟨by simp [g1, g2], rfl⟩
    · go_wp2_with fail
      go_meet
      exact ⟨by simp; try omega, rfl⟩
  case rest =>
  obtain ⟨rfl, rfl⟩ := hcut
  generalize (decide (n < 0) && decide (0 < r)) = bb at *
  go_upto_if 29 with fail
  go_cut [7] (fun s7 wx => s7 = .int .i64 d ∧ w = wx)
  case first =>
    cases bb
    · have HX : Hid (d = n.tdiv 86400000) := Lib.hid (HFL.out.trans (if_neg (by decide)))
      clear HFL
      go_wp2_with fail
      go_meet
      exact ⟨by rw [HX.out], rfl⟩
    · have HX : Hid (d = n.tdiv 86400000 - 1) := Lib.hid (HFL.out.trans (if_pos rfl))
      clear HFL
      go_wp2_with fail
      go_meet
      exact ⟨by rw [HX.out], rfl⟩
  case rest =>
  obtain ⟨rfl, rfl⟩ := hcut
  clear HFL t1 t2
  go_wp2_with fail
  refine (hda _).mono ?_
  rintro e' w1 ⟨rfl, hB⟩
  clear hda
  have hYL : (ymdS ((Y : Int), (M : Int), (D : Int))).length ≤ 100 := by
    have l1 := padS_len Y 4 (by omega)
    have l2 := padS_len M 2 (by omega)
    have l3 := padS_len D 2 (by omega)
    have : ymdS ((Y : Int), (M : Int), (D : Int)) = padS Y 4 ++ 45 :: (padS M 2 ++ 45 :: padS D 2) := rfl
    rw [this]
    simp only [List.length_append, List.length_cons]
    omega
  have HDO : Hid (-719162 ≤ d ∧ d ≤ 100000109 → dateOf d = ((Y : Int), (M : Int), (D : Int))) := Lib.hid (by
    intro g
    rcases HDE.out with ⟨_, _, _, h⟩ | ⟨h, _⟩
    · exact h
    · exact absurd g h)
  clear HDE
  have hB1 : Below w.heap.size w (w1.alloc (.cells #[.int .i64 Y, .int .i64 M, .int .i64 D] 108)) := hB.alloc hB.size _
  rcases hkk with rfl | rfl | rfl | rfl | rfl
  · clear hM hwk hwd y1 y2 t3 t4 HFM
    rcases HEE.out with ⟨g1, g2, rfl⟩ | ⟨g1, rfl⟩
    · by_cases hr0 : r = 0
      · have HN : Hid (v = (ymdS ((Y : Int), (M : Int), (D : Int)), 0)) := Lib.hid (by rw [HV.out, show1, ← HD.out, ← HR.out, if_pos ⟨g1, g2, hr0⟩, HDO.out ⟨g1, g2⟩])
        have t1 : (r == 0) = true := by simpa using hr0
        clear hr0
        generalize ymdS ((Y : Int), (M : Int), (D : Int)) = s at *
        go_wp2_with fail
        refine (hD _).mono ?_
        rintro e' w2 ⟨rfl, hB2⟩
        go_wp2_with fail
        go_ret2
        exact ⟨rret_si (by rw [HN.out]) (by rw [HN.out]), below_trans hB1 hB2⟩
      · have HN : Hid (v = ([], 2)) := Lib.hid (by rw [HV.out, show1, ← HD.out, ← HR.out, if_neg (fun g => hr0 g.2.2)])
        have t1 : (r == 0) = false := by simpa using hr0
        clear hr0
        go_wp2_with fail
        go_ret2
        exact ⟨rret_si (by rw [HN.out]) (by rw [HN.out]), hB1⟩
    · have HN : Hid (v = ([], 2)) := Lib.hid (by rw [HV.out, show1, ← HD.out, ← HR.out, if_neg (fun g => g1 ⟨g.1, g.2.1⟩)])
      go_wp2_with fail
      go_ret2
      exact ⟨rret_si (by rw [HN.out]) (by rw [HN.out]), hB1⟩
  · clear hD hwk hwd hYL HDO HEE
    have HN2 : Hid (v = if 1 ≤ y + 1970 ∧ y + 1970 ≤ 275760 then (padS (y + 1970).toNat 4 ++ 45 :: padS (m + 1).toNat 2, 0) else ([], 2)) := Lib.hid (by rw [HV.out, show2, ← HY.out, ← HM.out])
    go_wp2_with fail
    refine (hM _).mono ?_
    rintro e' w2 ⟨rfl, rfl⟩
    clear hM
    go_upto_region 15 with fail
    go_cut [59] (fun s59 wx => s59 = .bool (decide (n < 0) && decide (0 < m)) ∧ w1.alloc (.cells #[.int .i64 Y, .int .i64 M, .int .i64 D] 108) = wx)
    case first =>
      by_cases g1 : n < 0
      · by_cases g2 : 0 < m
        · go_wp2_with fail
          go_meet
          exact ⟨by simp [g1, g2], rfl⟩
        · go_wp2_with fail
          go_meet
          exact ⟨by simp [g1, g2], rfl⟩
      · go_wp2_with fail
        go_meet
        exact ⟨by simp; try omega, rfl⟩
    case rest =>
    obtain ⟨rfl, rfl⟩ := hcut
    generalize (decide (n < 0) && decide (0 < m)) = cc at *
    go_upto_if 59 with fail
    go_cut [11] (fun s11 wx => s11 = .int .i64 y ∧ w1.alloc (.cells #[.int .i64 Y, .int .i64 M, .int .i64 D] 108) = wx)
    case first =>
      cases cc
      · have HX : Hid (y = n.tdiv 12) := Lib.hid (HFM.out.trans (if_neg (by decide)))
        clear HFM
        go_wp2_with fail
        go_meet
        exact ⟨by rw [HX.out], rfl⟩
      · have HX : Hid (y = n.tdiv 12 - 1) := Lib.hid (HFM.out.trans (if_pos rfl))
        clear HFM
        go_wp2_with fail
        go_meet
        exact ⟨by rw [HX.out], rfl⟩
    case rest =>
    obtain ⟨rfl, rfl⟩ := hcut
    clear HFM t3 t4
    generalize w1.alloc (.cells #[.int .i64 Y, .int .i64 M, .int .i64 D] 108) = w2 at *
    by_cases g1 : -1969 ≤ y
    · by_cases g2 : y ≤ 273790
      · have HN : Hid (v = (padS (y + 1970).toNat 4 ++ 45 :: padS (m + 1).toNat 2, 0)) := Lib.hid (by rw [HN2.out, if_pos (by omega)])
        have p1 := fun w => rpad_any (y + 1970) (y + 1970).toNat (by omega) (by omega) 4 4 rfl (by decide) w
        have p2 := fun w => rpad_any (m + 1) (m + 1).toNat (by omega) (by omega) 2 2 rfl (by decide) w
        have l1 := padS_len (y + 1970).toNat 4 (by omega)
        have l2 := padS_len (m + 1).toNat 2 (by omega)
        generalize padS (y + 1970).toNat 4 = s1 at *
        generalize padS (m + 1).toNat 2 = s2 at *
        go_wp2_with fail
        refine (p1 _).mono ?_
        rintro e' w3 ⟨rfl, hB3⟩
        go_wp2_with fail
        refine (p2 _).mono ?_
        rintro e' w4 ⟨rfl, hB4⟩
        go_wp2_with fail
        go_ret2
        exact ⟨rret_si (by first | (rw [HN.out]; done) | (rw [HN.out]; simp)) (by rw [HN.out]), below_trans (below_trans hB1 hB3) hB4⟩
      · have HN : Hid (v = ([], 2)) := Lib.hid (by rw [HN2.out, if_neg (by omega)])
        go_wp2_with fail
        go_ret2
        exact ⟨rret_si (by rw [HN.out]) (by rw [HN.out]), hB1⟩
    · have HN : Hid (v = ([], 2)) := Lib.hid (by rw [HN2.out, if_neg (by omega)])
      go_wp2_with fail
      go_ret2
      exact ⟨rret_si (by rw [HN.out]) (by rw [HN.out]), hB1⟩
  · clear hD hM hYL HDO HEE HFM y1 y2 t3 t4
    have hwe : weekE d = if -719162 ≤ d ∧ d < 100000107 then ((yearW (dateOf d).1 d, (d - firstW (yearW (dateOf d).1 d)) / 7 + 1), 0) else ((0, 0), 2) := rfl
    have HN3 : Hid (v = if -719162 ≤ d ∧ d < 100000107 ∧ r = 0 ∧ wd d = 1 then (padS (yearW (dateOf d).1 d).toNat 4 ++ 45 :: 87 :: padS ((d - firstW (yearW (dateOf d).1 d)) / 7 + 1).toNat 2, 0) else ([], 2)) := Lib.hid (by rw [HV.out, show3, ← HD.out, ← HR.out])
    by_cases hd : -719162 ≤ d ∧ d < 100000107
    · rw [if_pos hd] at hwe
      obtain ⟨a1, a2, a3, a4⟩ := yearW_bounds d hd.1 hd.2
      rw [hwe] at hwk
      dsimp only at hwk
      have HN4 : Hid (v = if r = 0 ∧ wd d = 1 then (padS (yearW (dateOf d).1 d).toNat 4 ++ 45 :: 87 :: padS ((d - firstW (yearW (dateOf d).1 d)) / 7 + 1).toNat 2, 0) else ([], 2)) := Lib.hid (by
        rw [HN3.out]
        by_cases q : r = 0 ∧ wd d = 1
        · rw [if_pos ⟨hd.1, hd.2, q⟩, if_pos q]
        · rw [if_neg (fun k => q k.2.2), if_neg q])
      clear HN3 hwe
      generalize yearW (dateOf d).1 d = WY at *
      generalize (d - firstW WY) / 7 + 1 = WK at *
      generalize wd d = wdd at *
      go_wp2_with fail
      refine (hwk _).mono ?_
      rintro e' w2 ⟨rfl, hB2⟩
      clear hwk
      have hS : (w2.alloc (.cells #[.int .i64 WY, .int .i64 WK, .int .i64 0] 108)).cell? ⟨w2.heap.size, 0, none⟩ = some (.int .i64 WY) ∧ (w2.alloc (.cells #[.int .i64 WY, .int .i64 WK, .int .i64 0] 108)).cell? ⟨w2.heap.size, 1, none⟩ = some (.int .i64 WK) ∧ (w2.alloc (.cells #[.int .i64 WY, .int .i64 WK, .int .i64 0] 108)).cell? ⟨w2.heap.size, 2, none⟩ = some (.int .i64 0) ∧ Below w.heap.size w (w2.alloc (.cells #[.int .i64 WY, .int .i64 WK, .int .i64 0] 108)) := by
        have hB02 := below_trans hB1 hB2
        refine ⟨?_, ?_, ?_, hB02.alloc hB02.size _⟩ <;> (rw [World.cell?_alloc_new]; rfl)
      have HS := Lib.hid hS
      clear hS hB1 hB2 hB
      by_cases hr0 : r = 0
      · have t1 : (r == 0) = true := by simpa using hr0
        by_cases hw1 : wdd = 1
        · have t2 : (wdd == 1) = true := by simpa using hw1
          have HN : Hid (v = (padS WY.toNat 4 ++ 45 :: 87 :: padS WK.toNat 2, 0)) := Lib.hid (by rw [HN4.out, if_pos ⟨hr0, hw1⟩])
          clear hr0 hw1 HN4
          have p1 := fun w => rpad_any WY WY.toNat (by omega) (by omega) 4 4 rfl (by decide) w
          have p2 := fun w => rpad_any WK WK.toNat (by omega) (by omega) 2 2 rfl (by decide) w
          have l1 := padS_len WY.toNat 4 (by omega)
          have l2 := padS_len WK.toNat 2 (by omega)
          generalize padS WY.toNat 4 = s1 at *
          generalize padS WK.toNat 2 = s2 at *
          have e1 := fun w => str_add s1 [45, 87] (by simp; omega) w
          have e2 := fun w => str_add (s1 ++ [45, 87]) s2 (by simp; omega) w
          have e3 := fun w => str_add (s1 ++ 45 :: [87]) s2 (by simp; omega) w
          go_wp2_with fail
          refine (hwd _).mono ?_
          rintro e' w' ⟨rfl, rfl⟩
          clear hwd
          go_wp2_with fail
          have hS := HS.out
          clear HS
          generalize w2.alloc (.cells #[.int .i64 WY, .int .i64 WK, .int .i64 0] 108) = w3 at *
          go_region_held3 (fun w' => w'.cell? ⟨w2.heap.size, 0, none⟩ = some (.int .i64 WY) ∧ w'.cell? ⟨w2.heap.size, 1, none⟩ = some (.int .i64 WK) ∧ w'.cell? ⟨w2.heap.size, 2, none⟩ = some (.int .i64 0) ∧ Below w.heap.size w w')
            (first | assumption | exact held3_drew hS | (refine held3_below (by assumption) (by assumption)))
            (first | (go_at_call_of 96 (Value.int .i64 WY); refine (p1 _).mono ?_; rintro e w' ⟨rfl, hb⟩) | (go_at_call_of 96 (Value.int .i64 WK); refine (p2 _).mono ?_; rintro e w' ⟨rfl, hb⟩))
          all_goals
            go_wp2_with fail
            go_ret2
            exact ⟨rret_si (by first | (rw [HN.out]; done) | (rw [HN.out]; simp)) (by rw [HN.out]), held3_last (by assumption)⟩
        · have t2 : (wdd == 1) = false := by simpa using hw1
          have HN : Hid (v = ([], 2)) := Lib.hid (by rw [HN4.out, if_neg (fun k => hw1 k.2)])
          clear hr0 hw1 HN4
          go_wp2_with fail
          refine (hwd _).mono ?_
          rintro e' w' ⟨rfl, rfl⟩
          go_wp2_with fail
          go_ret2
          exact ⟨rret_si (by rw [HN.out]) (by rw [HN.out]), held3_last HS.out⟩
      · have t1 : (r == 0) = false := by simpa using hr0
        have HN : Hid (v = ([], 2)) := Lib.hid (by rw [HN4.out, if_neg (fun k => hr0 k.1)])
        clear hr0 HN4
        go_wp2_with fail
        go_ret2
        exact ⟨rret_si (by rw [HN.out]) (by rw [HN.out]), held3_last HS.out⟩
    · rw [if_neg hd] at hwe
      rw [hwe] at hwk
      dsimp only at hwk
      have HN : Hid (v = ([], 2)) := Lib.hid (by rw [HN3.out, if_neg (fun k => hd ⟨k.1, k.2.1⟩)])
      clear HN3 hwe hd
      go_wp2_with fail
      refine (hwk _).mono ?_
      rintro e' w2 ⟨rfl, hB2⟩
      have hB02 := below_trans hB1 hB2
      clear hwk
      go_wp2_with fail
      go_ret2
      exact ⟨rret_si (by rw [HN.out]) (by rw [HN.out]), hB02.alloc hB02.size _⟩
  · clear hD hM hwk hwd hYL HDO HEE HFM y1 y2 t3 t4
    by_cases g1 : 0 ≤ n
    · by_cases g2 : n < 86400000
      · have HN : Hid (v = (clockS n.toNat, 0)) := Lib.hid (by rw [HV.out, show4, if_pos ⟨g1, g2⟩])
        have hc := fun w => rclock_show n n.toNat (by omega) (by omega) w
        generalize clockS n.toNat = s at *
        go_wp2_with fail
        refine (hc _).mono ?_
        rintro e' w2 ⟨rfl, hB2⟩
        go_wp2_with fail
        go_ret2
        exact ⟨rret_si (by rw [HN.out]) (by rw [HN.out]), below_trans hB1 hB2⟩
      · have HN : Hid (v = ([], 2)) := Lib.hid (by rw [HV.out, show4, if_neg (fun g => g2 g.2)])
        go_wp2_with fail
        go_ret2
        exact ⟨rret_si (by rw [HN.out]) (by rw [HN.out]), hB1⟩
    · have HN : Hid (v = ([], 2)) := Lib.hid (by rw [HV.out, show4, if_neg (fun g => g1 g.1)])
      go_wp2_with fail
      go_ret2
      exact ⟨rret_si (by rw [HN.out]) (by rw [HN.out]), hB1⟩
  · clear hM hwk hwd HFM y1 y2 t3 t4
    rcases HEE.out with ⟨g1, g2, rfl⟩ | ⟨g1, rfl⟩
    · have HN : Hid (v = (ymdS ((Y : Int), (M : Int), (D : Int)) ++ 84 :: clockS r.toNat, 0)) := Lib.hid (by rw [HV.out, show5, ← HD.out, ← HR.out, if_pos ⟨g1, g2⟩, HDO.out ⟨g1, g2⟩])
      have hc := fun w => rclock_show r r.toNat (by omega) (by omega) w
      have lc := clockS_len r.toNat (by omega)
      generalize clockS r.toNat = s2 at *
      generalize ymdS ((Y : Int), (M : Int), (D : Int)) = s at *
      go_wp2_with fail
      refine (hD _).mono ?_
      rintro e' w2 ⟨rfl, hB2⟩
      go_wp2_with fail
      refine (hc _).mono ?_
      rintro e' w3 ⟨rfl, hB3⟩
      go_wp2_with fail
      go_ret2
      exact ⟨rret_si (by first | (rw [HN.out]; done) | (rw [HN.out]; simp)) (by rw [HN.out]), below_trans (below_trans hB1 hB2) hB3⟩
    · have HN : Hid (v = ([], 2)) := Lib.hid (by rw [HV.out, show5, ← HD.out, ← HR.out, if_neg g1])
      go_wp2_with fail
      go_ret2
      exact ⟨rret_si (by rw [HN.out]) (by rw [HN.out]), hB1⟩
end Go.Proofs.YtfmelhpegcpbiaaGreatDoor.mom
