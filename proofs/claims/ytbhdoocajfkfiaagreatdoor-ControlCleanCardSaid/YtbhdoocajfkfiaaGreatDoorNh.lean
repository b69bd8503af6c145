/- The contracts of moment.pad, clock, split. The contract of moment.Show. -/
import Derived.Test.YtbhdoocajfkfiaaGreatDoorMa
import Derived.Test.YtbhdoocajfkfiaaGreatDoorZWeek
import Derived.Test.YtbhdoocajfkfiaaGreatDoorShelf
import Derived.WalkSpells
import Derived.Lib.AppendIntMem
namespace Go.Proofs.YtbhdoocajfkfiaaGreatDoor.mom
open Go.ChangeShapes Go.WideShapes Go.ChangeAt Go.RowKit Go.Lib Go.Proofs.YtbhdoocajfkfiaaGreatDoor.num Go.Proofs.YtbhdoocajfkfiaaGreatDoor.days Go.Proofs.YtbhdoocajfkfiaaGreatDoor.cal

theorem ret_str {a b : List UInt8} (h : a = b) : Ending.returned (.string ⟨a.toArray⟩) = .returned (.string ⟨b.toArray⟩) := by rw [h]
theorem itoa_any (n : Nat) (hn : n ≤ 1000000000000) (w : World) (hG : G w) :
    Calls Tryz.prog 259 #[.int .i64 (n : Int)] w fun e w' => e = .returned (.string ⟨(decDigits n).toArray⟩) ∧ Below w.heap.size w w' := by
  refine (Tryz.strconv_Itoa (n : Int) (by omega) (by omega) w hG.p10).mono ?_
  rintro e w' ⟨rfl, k, os, rfl⟩
  refine ⟨?_, below_grow _ _ (Nat.le_refl _) _ _⟩
  have : Lib.itoa (n : Int) = decDigits n := by unfold Lib.itoa; rw [if_neg (by omega)]; simp
  rw [this]

theorem repeat_any (k : Nat) (hk : k ≤ 1000) (w : World) :
    Calls Tryz.prog 260 #[.string ⟨#[48]⟩, .int .i64 (k : Int)] w fun e w' => e = .returned (.string ⟨(List.replicate k 48).toArray⟩) ∧ Below w.heap.size w w' := by
  refine (Tryz.strings_Repeat ⟨#[48]⟩ k w (by omega) (by show 1 * k ≤ _; omega)).mono ?_
  rintro e w' ⟨rfl, hb⟩
  refine ⟨?_, hb⟩
  have : Lib.repeatL [48] k = List.replicate k 48 := by
    have := repeatL_replicate 48 1 k
    simpa using this
  show Ending.returned (.string ⟨(Lib.repeatL [48] k).toArray⟩) = _
  rw [this]

theorem nDig_le (u : Nat) (hu : u < 18446744073709551616) : nDigits u ≤ 20 := by
  by_cases h : u = 0
  · subst h; rw [nDigits_small (by omega)]; omega
  · have := numDigits_eq u (by omega) hu
    split at this <;> omega
theorem digits_len (n : Nat) (hn : n ≤ 1000000000000) : 1 ≤ (decDigits n).length ∧ (decDigits n).length ≤ 20 := by
  rw [decDigits_length]
  constructor
  · unfold nDigits; split <;> omega
  · exact nDig_le n (by omega)

set_option maxHeartbeats 1600000 in
set_option maxRecDepth 100000 in
theorem pad_any (a : Int) (n : Nat) (ha : a = n) (hn : n ≤ 1000000000000) (b : Int) (k : Nat) (hb : b = k) (hk : k ≤ 10) (w : World) (hG : G w) :
    Calls Tryz.prog 210 #[.int .i64 a, .int .i64 b] w fun e w' => e = .returned (.string ⟨(padS n k).toArray⟩) ∧ Below w.heap.size w w' := by
  subst ha
  subst hb
  have hi := itoa_any n hn w hG
  obtain ⟨d1, d2⟩ := digits_len n hn
  have HV : Hid (padS n k = List.replicate (k - (decDigits n).length) 48 ++ decDigits n) := Lib.hid rfl
  generalize padS n k = v at *
  generalize decDigits n = d at *
  have hm : max (0 : Int) ((k : Int) - d.length) = ((k - d.length : Nat) : Int) := by omega
  have hr := fun w => repeat_any (k - d.length) (by omega) w
  rw [← hm] at hr
  have hzl : (List.replicate (k - d.length) (48 : UInt8)).length ≤ 10 := by simp; omega
  generalize List.replicate (k - d.length) (48 : UInt8) = z at *
  clear hm
  go_enter Tryz.func210, Tryz.ntmps210
  go_wp2_with fail
  refine hi.mono ?_
  rintro e w1 ⟨rfl, hb1⟩
  clear hi
  go_wp2_with fail
  refine (hr w1).mono ?_
  rintro e w2 ⟨rfl, hb2⟩
  clear hr
  go_wp2_with fail
  go_ret
  exact ⟨ret_str HV.out.symm, below_trans hb1 hb2⟩

theorem quo (n D : Int) (hD : 0 < D) : (0 ≤ n.tmod D ∧ n / D = n.tdiv D ∧ n % D = n.tmod D) ∨ (n.tmod D < 0 ∧ n / D = n.tdiv D - 1 ∧ n % D = n.tmod D + D) := by
  have h0 := Int.tmod_eq_emod (a := n) (b := D)
  have h1 := Int.emod_nonneg n (show D ≠ 0 by omega)
  have h2 := Int.emod_lt_of_pos n hD
  have h3 : ((D.natAbs : Nat) : Int) = D := by omega
  have h4 := Int.mul_tdiv_add_tmod n D
  have h5 := Int.mul_ediv_add_emod n D
  split at h0
  · left
    have e : n.tmod D = n % D := by omega
    refine ⟨by omega, ?_, e.symm⟩
    have : D * (n / D) = D * n.tdiv D := by omega
    exact Int.eq_of_mul_eq_mul_left (by omega) this
  · right
    rename_i hh
    have hnz : n % D ≠ 0 := fun g => hh (.inr (Int.dvd_of_emod_eq_zero g))
    have e : n.tmod D = n % D - D := by omega
    refine ⟨by omega, ?_, by omega⟩
    have : D * (n / D) = D * (n.tdiv D - 1) := by rw [Int.mul_sub, Int.mul_one]; omega
    exact Int.eq_of_mul_eq_mul_left (by omega) this

set_option maxHeartbeats 1600000 in
set_option maxRecDepth 100000 in
theorem split_any (n : Int) (hn : int64 n) (w : World) :
    Calls Tryz.prog 208 #[.int .i64 n] w fun e w' => e = .returned (.tuple #[.int .i64 (n / 86400000), .int .i64 (n % 86400000)]) ∧ Below w.heap.size w w' := by
  have hq := quo n 86400000 (by decide)
  obtain ⟨n1, n2⟩ := hn
  rcases hq with ⟨g1, g2, g3⟩ | ⟨g1, g2, g3⟩
  · have G2 := Lib.hid g2
    have G3 := Lib.hid g3
    clear g2 g3
    go_enter Tryz.func208, Tryz.ntmps208
    go_wp2_with fail
    go_ret2
    exact ⟨ret_ii (by rw [G2.out]) (by rw [G3.out]), Below.refl _ _⟩
  · have b1 : -1000000000000 ≤ n.tdiv 86400000 - 1 := by omega
    have b2 : n.tdiv 86400000 - 1 ≤ 1000000000000 := by omega
    have b3 : -86400000 ≤ n.tmod 86400000 + 86400000 := by omega
    have b4 : n.tmod 86400000 + 86400000 ≤ 86400000 := by omega
    have G2 := Lib.hid g2
    have G3 := Lib.hid g3
    clear g2 g3
    go_enter Tryz.func208, Tryz.ntmps208
    go_wp2_with fail
    go_ret2
    exact ⟨ret_ii (by rw [G2.out]) (by rw [G3.out]), Below.refl _ _⟩

theorem padS_len (n k : Nat) (hn : n ≤ 1000000000000) : (padS n k).length ≤ k + 20 := by
  have := digits_len n hn
  unfold padS
  rw [List.length_append, List.length_replicate]; omega

theorem trim_any (l : List UInt8) (hl : l.length ≤ 1000000) (w : World) :
    Calls Tryz.prog 201 #[.string ⟨l.toArray⟩, .string ⟨#[48]⟩] w fun e w' => e = .returned (.string ⟨(strip l).toArray⟩) ∧ w = w' := by
  refine (Tryz.strings_TrimRight_one ⟨l.toArray⟩ 48 (by decide) w (by rw [bsize]; omega)).mono ?_
  rintro e w' ⟨rfl, rfl⟩
  have e1 : (⟨l.toArray⟩ : ByteArray).data.toList = l := rfl
  rw [e1, ← trimRightS_one, strip_trim]
  exact ⟨rfl, rfl⟩

set_option maxHeartbeats 1600000 in
set_option maxRecDepth 100000 in
theorem clock_any (a : Int) (n : Nat) (ha : a = n) (hn : n < 86400000) (w : World) (hG : G w) :
    Calls Tryz.prog 213 #[.int .i64 a] w fun e w' => e = .returned (.string ⟨(clockS n).toArray⟩) ∧ Below w.heap.size w w' := by
  subst ha
  have p1 := fun w h => pad_any ((n : Int) / 3600000) (n / 3600000) (by omega) (by omega) 2 2 rfl (by decide) w h
  have p2 := fun w h => pad_any ((n : Int) / 60000 % 60) (n / 60000 % 60) (by omega) (by omega) 2 2 rfl (by decide) w h
  have p3 := fun w h => pad_any ((n : Int) % 60000 / 1000) (n % 60000 / 1000) (by omega) (by omega) 2 2 rfl (by decide) w h
  have p4 := fun w h => pad_any ((n : Int) % 1000) (n % 60000 % 1000) (by omega) (by omega) 3 3 rfl (by decide) w h
  have l1 := padS_len (n / 3600000) 2 (by omega)
  have l2 := padS_len (n / 60000 % 60) 2 (by omega)
  have l3 := padS_len (n % 60000 / 1000) 2 (by omega)
  have l4 := padS_len (n % 60000 % 1000) 3 (by omega)
  have ht := fun w => trim_any (padS (n % 60000 % 1000) 3) (by omega) w
  have l5 := strip_le (padS (n % 60000 % 1000) 3)
  have hV : clockS n = padS (n / 3600000) 2 ++ 58 :: (padS (n / 60000 % 60) 2 ++ (if n % 60000 = 0 then [] else 58 :: (padS (n % 60000 / 1000) 2 ++ (if n % 60000 % 1000 = 0 then [] else 46 :: strip (padS (n % 60000 % 1000) 3))))) := rfl
  generalize clockS n = v at *
  generalize padS (n / 3600000) 2 = s1 at *
  generalize padS (n / 60000 % 60) 2 = s2 at *
  generalize padS (n % 60000 / 1000) 2 = s3 at *
  generalize strip (padS (n % 60000 % 1000) 3) = s5 at *
  generalize padS (n % 60000 % 1000) 3 = s4 at *
  by_cases g1 : n % 60000 = 0
  · have HV : Hid (v = s1 ++ 58 :: s2) := Lib.hid (by rw [hV, if_pos g1]; simp)
    have t1 : ((n : Int) % 60000 == 0) = true := by simp; omega
    clear hV g1 ht p3 p4
    go_enter Tryz.func213, Tryz.ntmps213
    go_wp2_with fail
    refine (p1 w hG).mono ?_
    rintro e w1 ⟨rfl, hb1⟩
    have G1 := hG.below hb1
    go_wp2_with fail
    refine (p2 w1 G1).mono ?_
    rintro e w2 ⟨rfl, hb2⟩
    have B2 := below_trans hb1 hb2
    clear p1 p2 hb1 hb2 G1
    go_wp2_with fail
    go_ret
    exact ⟨ret_str (by rw [HV.out]), B2⟩
  · rw [if_neg g1] at hV
    have t1 : ((n : Int) % 60000 == 0) = false := by simp; omega
    by_cases g2 : n % 60000 % 1000 = 0
    · have HV : Hid (v = s1 ++ 58 :: (s2 ++ 58 :: s3)) := Lib.hid (by rw [hV, if_pos g2]; simp)
      have t2 : ¬ (0 : Int) < (n : Int) % 1000 := by omega
      clear hV g1 g2 ht p4
      go_enter Tryz.func213, Tryz.ntmps213
      go_wp2_with fail
      refine (p1 w hG).mono ?_
      rintro e w1 ⟨rfl, hb1⟩
      have G1 := hG.below hb1
      go_wp2_with fail
      refine (p2 w1 G1).mono ?_
      rintro e w2 ⟨rfl, hb2⟩
      have B2 := below_trans hb1 hb2
      clear p1 p2 hb1 hb2 G1
      go_wp2_with fail
      refine (p3 w2 (hG.below B2)).mono ?_
      rintro e w3 ⟨rfl, hb3⟩
      have B3 := below_trans B2 hb3
      clear p3 hb3 B2
      go_wp2_with fail
      go_ret
      exact ⟨ret_str (by first | (rw [HV.out]; done) | (rw [HV.out]; simp)), B3⟩
    · have HV : Hid (v = s1 ++ 58 :: (s2 ++ 58 :: (s3 ++ 46 :: s5))) := Lib.hid (by rw [hV, if_neg g2])
      have t2 : (0 : Int) < (n : Int) % 1000 := by omega
      clear hV g1 g2
      go_enter Tryz.func213, Tryz.ntmps213
      go_wp2_with fail
      refine (p1 w hG).mono ?_
      rintro e w1 ⟨rfl, hb1⟩
      have G1 := hG.below hb1
      go_wp2_with fail
      refine (p2 w1 G1).mono ?_
      rintro e w2 ⟨rfl, hb2⟩
      have B2 := below_trans hb1 hb2
      clear p1 p2 hb1 hb2 G1
      go_wp2_with fail
      refine (p3 w2 (hG.below B2)).mono ?_
      rintro e w3 ⟨rfl, hb3⟩
      have B3 := below_trans B2 hb3
      clear p3 hb3 B2
      go_wp2_with fail
      refine (p4 w3 (hG.below B3)).mono ?_
      rintro e w4 ⟨rfl, hb4⟩
      have B4 := below_trans B3 hb4
      clear p4 hb4 B3
      go_wp2_with fail
      refine (ht w4).mono ?_
      rintro e w5 ⟨rfl, rfl⟩
      go_wp2_with fail
      go_ret
      exact ⟨ret_str (by first | (rw [HV.out]; done) | (rw [HV.out]; simp)), B4⟩
end Go.Proofs.YtbhdoocajfkfiaaGreatDoor.mom

namespace Go.Proofs.YtbhdoocajfkfiaaGreatDoor.mom
open Go.ChangeShapes Go.WideShapes Go.ChangeAt Go.RowKit Go.Lib Go.Proofs.YtbhdoocajfkfiaaGreatDoor.num Go.Proofs.YtbhdoocajfkfiaaGreatDoor.days Go.Proofs.YtbhdoocajfkfiaaGreatDoor.cal

theorem ret_si {a b : List UInt8} {c d : Int} (h : a = b) (g : c = d) : Ending.returned (.tuple #[.string ⟨a.toArray⟩, .int .i64 c]) = .returned (.tuple #[.string ⟨b.toArray⟩, .int .i64 d]) := by rw [h, g]

theorem show1 (n : Int) : showM 1 n = if -719162 ≤ n / 86400000 ∧ n / 86400000 ≤ 100000109 ∧ n % 86400000 = 0 then (ymdS (dateOf (n / 86400000)), 0) else ([], 2) := by
  unfold showM; rw [if_pos rfl]
theorem show2 (n : Int) : showM 2 n = if 1 ≤ n / 12 + 1970 ∧ n / 12 + 1970 ≤ 275760 then (padS (n / 12 + 1970).toNat 4 ++ 45 :: padS (n % 12 + 1).toNat 2, 0) else ([], 2) := by
  unfold showM; rw [if_neg (by decide), if_pos rfl]
theorem show3 (n : Int) : showM 3 n = if -719162 ≤ n / 86400000 ∧ n / 86400000 < 100000107 ∧ n % 86400000 = 0 ∧ wd (n / 86400000) = 1 then
    (padS (yearW (dateOf (n / 86400000)).1 (n / 86400000)).toNat 4 ++ 45 :: 87 :: padS ((n / 86400000 - firstW (yearW (dateOf (n / 86400000)).1 (n / 86400000))) / 7 + 1).toNat 2, 0) else ([], 2) := by
  unfold showM; rw [if_neg (by decide), if_neg (by decide), if_pos rfl]
theorem show4 (n : Int) : showM 4 n = if 0 ≤ n ∧ n < 86400000 then (clockS n.toNat, 0) else ([], 2) := by
  unfold showM; rw [if_neg (by decide), if_neg (by decide), if_neg (by decide), if_pos rfl]
theorem show5 (n : Int) : showM 5 n = if -719162 ≤ n / 86400000 ∧ n / 86400000 ≤ 100000109 then (ymdS (dateOf (n / 86400000)) ++ 84 :: clockS (n % 86400000).toNat, 0) else ([], 2) := by
  unfold showM; rw [if_neg (by decide), if_neg (by decide), if_neg (by decide), if_neg (by decide), if_pos rfl]
theorem show0 (kind n : Int) (h : ¬ (1 ≤ kind ∧ kind ≤ 5)) : showM kind n = ([], 3) := by
  unfold showM; rw [if_neg (by omega), if_neg (by omega), if_neg (by omega), if_neg (by omega), if_neg (by omega)]
theorem clockS_len (n : Nat) (hn : n < 86400000) : (clockS n).length ≤ 200 := by
  have l1 := padS_len (n / 3600000) 2 (by omega)
  have l2 := padS_len (n / 60000 % 60) 2 (by omega)
  have l3 := padS_len (n % 60000 / 1000) 2 (by omega)
  have l4 := padS_len (n % 60000 % 1000) 3 (by omega)
  have l5 := strip_le (padS (n % 60000 % 1000) 3)
  unfold clockS partS
  split
  · simp only [List.length_append, List.length_cons, List.length_nil]; omega
  · split
    · simp only [List.length_append, List.length_cons, List.length_nil]; omega
    · simp only [List.length_append, List.length_cons]; omega

theorem dateE_nat (d : Int) : ∃ Y M D : Nat, Y ≤ 275760 ∧ M ≤ 12 ∧ D ≤ 31 ∧ ((-719162 ≤ d ∧ d ≤ 100000109 ∧ dateE d = (((Y : Int), (M : Int), (D : Int)), 0) ∧ dateOf d = ((Y : Int), (M : Int), (D : Int))) ∨ (¬ (-719162 ≤ d ∧ d ≤ 100000109) ∧ dateE d = (((Y : Int), (M : Int), (D : Int)), 2))) := by
  unfold dateE
  by_cases h : -719162 ≤ d ∧ d ≤ 100000109
  · obtain ⟨a1, a2, a3, a4, a5, a6⟩ := dateOf_bounds d h.1 h.2
    refine ⟨(dateOf d).1.toNat, (dateOf d).2.1.toNat, (dateOf d).2.2.toNat, by omega, by omega, by omega, .inl ⟨h.1, h.2, ?_, ?_⟩⟩
    · rw [if_pos h, Int.toNat_of_nonneg (by omega), Int.toNat_of_nonneg (by omega), Int.toNat_of_nonneg (by omega)]
    · rw [Int.toNat_of_nonneg (by omega), Int.toNat_of_nonneg (by omega), Int.toNat_of_nonneg (by omega)]
  · exact ⟨0, 0, 0, by omega, by omega, by omega, .inr ⟨h, by rw [if_neg h]; rfl⟩⟩

theorem yearW_bounds (d : Int) (h1 : -719162 ≤ d) (h2 : d < 100000107) : 1 ≤ yearW (dateOf d).1 d ∧ yearW (dateOf d).1 d ≤ 275760 ∧ 1 ≤ (d - firstW (yearW (dateOf d).1 d)) / 7 + 1 ∧ (d - firstW (yearW (dateOf d).1 d)) / 7 + 1 ≤ 54 := by
  have a := num_year _ _ _ (date_ok d h1).1
  rw [(date_ok d h1).2.1] at a
  have b := yearW_ok (dateOf d).1 d a.1 a.2
  have c := weeksW_mul (yearW (dateOf d).1 d)
  have e := weeksW_pos (yearW (dateOf d).1 d)
  have f1 := firstW_1
  have f2 := firstW_end
  have lo : 1 ≤ yearW (dateOf d).1 d := by
    rcases Int.lt_or_le (yearW (dateOf d).1 d) 1 with g | g
    · exfalso
      rcases Int.lt_or_eq_of_le (show yearW (dateOf d).1 d + 1 ≤ 1 by omega) with k | k
      · have := firstW_mono _ _ k; omega
      · rw [k] at b; omega
    · exact g
  have hi : yearW (dateOf d).1 d ≤ 275760 := by
    rcases Int.lt_or_le 275760 (yearW (dateOf d).1 d) with g | g
    · exfalso
      rcases Int.lt_or_eq_of_le (show 275761 ≤ yearW (dateOf d).1 d by omega) with k | k
      · have := firstW_mono _ _ k; omega
      · rw [← k] at b; omega
    · exact g
  refine ⟨lo, hi, by omega, by omega⟩

set_option maxHeartbeats 3200000 in
set_option maxRecDepth 100000 in
theorem mshow_any (kind n : Int) (hk : int64 kind) (hn : int64 n) (w : World) (hG : G w) :
    Calls Tryz.prog 153 #[.int .i64 kind, .int .i64 n] w fun e w' => e = .returned (.tuple #[.string ⟨(showM kind n).1.toArray⟩, .int .i64 (showM kind n).2]) ∧ Below w.heap.size w w' := by
  obtain ⟨v, hv⟩ : ∃ v, v = showM kind n := ⟨_, rfl⟩
  rw [← hv]
  have HV := Lib.hid hv
  clear hv
  have hs := split_any n hn w
  obtain ⟨d, hd⟩ : ∃ d, d = n / 86400000 := ⟨_, rfl⟩
  obtain ⟨r, hr⟩ : ∃ r, r = n % 86400000 := ⟨_, rfl⟩
  rw [← hd, ← hr] at hs
  have hdi : int64 d := by obtain ⟨a, b⟩ := hn; unfold int64; omega
  have r1 : 0 ≤ r := by omega
  have r2 : r < 86400000 := by omega
  have hda := fun w => date_any d hdi w
  obtain ⟨Y, M, D, y1, m1, d1, hde⟩ := dateE_nat d
  obtain ⟨e, he⟩ : ∃ e, e = (dateE d).2 := ⟨_, rfl⟩
  have hde2 : dateE d = (((Y : Int), (M : Int), (D : Int)), e) := by rw [he]; rcases hde with ⟨_, _, h, _⟩ | ⟨_, h⟩ <;> rw [h]
  rw [hde2] at hda
  dsimp only at hda
  have p1 := fun w h => pad_any (Y : Int) Y rfl (by omega) 4 4 rfl (by decide) w h
  have p2 := fun w h => pad_any (M : Int) M rfl (by omega) 2 2 rfl (by decide) w h
  have p3 := fun w h => pad_any (D : Int) D rfl (by omega) 2 2 rfl (by decide) w h
  have l1 := padS_len Y 4 (by omega)
  have l2 := padS_len M 2 (by omega)
  have l3 := padS_len D 2 (by omega)
  have hymd : ymdS ((Y : Int), (M : Int), (D : Int)) = padS Y 4 ++ 45 :: (padS M 2 ++ 45 :: padS D 2) := rfl
  have HYMD := Lib.hid hymd
  generalize padS Y 4 = s1 at *
  generalize padS M 2 = s2 at *
  generalize padS D 2 = s3 at *
  have HDE := Lib.hid hde
  have HD := Lib.hid hd
  have HR := Lib.hid hr
  have hee : (-719162 ≤ d ∧ d ≤ 100000109 ∧ e = 0) ∨ (¬ (-719162 ≤ d ∧ d ≤ 100000109) ∧ e = 2) := by
    rw [he]
    rcases hde with ⟨a, b, h, _⟩ | ⟨a, h⟩
    · rw [h]; exact .inl ⟨a, b, rfl⟩
    · rw [h]; exact .inr ⟨a, rfl⟩
  have HEE := Lib.hid hee
  clear hee
  clear hde he hde2 hd hr hymd
  obtain ⟨k1, k2⟩ := hk
  obtain ⟨n1, n2⟩ := hn
  go_enter Tryz.func153, Tryz.ntmps153
  go_wp2_with fail
  refine hs.mono ?_
  rintro ee w1 ⟨rfl, hb1⟩
  have G1 := hG.below hb1
  clear hs
  go_wp2_with fail
  refine (hda w1).mono ?_
  rintro ee w1' ⟨rfl, rfl⟩
  clear hda
  go_wp2_with fail
  refine (p1 w1 G1).mono ?_
  rintro ee w2 ⟨rfl, hb2⟩
  have B2 := below_trans hb1 hb2
  go_wp2_with fail
  refine (p2 w2 (hG.below B2)).mono ?_
  rintro ee w3 ⟨rfl, hb3⟩
  have B3 := below_trans B2 hb3
  go_wp2_with fail
  refine (p3 w3 (hG.below B3)).mono ?_
  rintro ee w4 ⟨rfl, hb4⟩
  have B4 := below_trans B3 hb4
  have G4 := hG.below B4
  clear p1 p2 p3 hb1 hb2 hb3 hb4 B2 B3 G1
  have bad : ∀ (b : Bool), v = ([], 2) → True := fun _ _ => trivial
  clear bad
  by_cases q1 : kind = 1
  · subst q1
    rcases HEE.out with ⟨g1, g2, rfl⟩ | ⟨g1, rfl⟩
    · have HDD : Hid (dateOf d = ((Y : Int), (M : Int), (D : Int))) := Lib.hid (by rcases HDE.out with ⟨_, _, _, h⟩ | ⟨h, _⟩; exact h; exact absurd ⟨g1, g2⟩ h)
      by_cases g3 : r = 0
      · have HF : Hid (v = (s1 ++ 45 :: (s2 ++ 45 :: s3), 0)) := Lib.hid (by
          rw [HV.out, show1, ← HD.out, ← HR.out, if_pos ⟨g1, g2, g3⟩, HDD.out, HYMD.out])
        subst g3
        go_wp2_with fail
        go_ret2
        exact ⟨ret_si (by rw [HF.out]) (by rw [HF.out]), B4⟩
      · have HF : Hid (v = ([], 2)) := Lib.hid (by
          rw [HV.out, show1, ← HD.out, ← HR.out, if_neg (fun h => g3 h.2.2)])
        have t3 : (r == 0) = false := by simpa using g3
        clear g3
        go_wp2_with fail
        go_ret2
        exact ⟨ret_si (by rw [HF.out]) (by rw [HF.out]), B4⟩
    · have HF : Hid (v = ([], 2)) := Lib.hid (by
        rw [HV.out, show1, ← HD.out, ← HR.out, if_neg (fun h => g1 ⟨h.1, h.2.1⟩)])
      clear g1
      go_wp2_with fail
      go_ret2
      exact ⟨ret_si (by rw [HF.out]) (by rw [HF.out]), B4⟩
  by_cases q2 : kind = 2
  · subst q2
    have hq := quo n 12 (by decide)
    obtain ⟨k, hk⟩ : ∃ k, k = n / 12 + 1970 := ⟨_, rfl⟩
    obtain ⟨m, hm⟩ : ∃ m, m = n % 12 + 1 := ⟨_, rfl⟩
    have hm1 : 1 ≤ m ∧ m ≤ 12 := by omega
    have HVV : Hid (v = if 1 ≤ k ∧ k ≤ 275760 then (padS k.toNat 4 ++ 45 :: padS m.toNat 2, 0) else ([], 2)) := Lib.hid (by rw [HV.out, show2, hk, hm])
    have hkb : -1000000000000000000 ≤ k ∧ k ≤ 1000000000000000000 := by omega
    have htb : -1000000000000000000 ≤ n.tdiv 12 ∧ n.tdiv 12 ≤ 1000000000000000000 := by rcases hq with ⟨a, b, c⟩ | ⟨a, b, c⟩ <;> omega
    have htm : -12 ≤ n.tmod 12 ∧ n.tmod 12 < 12 := by rcases hq with ⟨a, b, c⟩ | ⟨a, b, c⟩ <;> omega
    have hmm : n.tmod 12 % 12 + 1 = m := by rcases hq with ⟨a, b, c⟩ | ⟨a, b, c⟩ <;> omega
    obtain ⟨t1, t2⟩ := htb
    obtain ⟨t3, t4⟩ := htm
    obtain ⟨k1', k2'⟩ := hkb
    have hcase : (0 ≤ n.tmod 12 ∧ n.tdiv 12 + 1970 = k) ∨ (n.tmod 12 < 0 ∧ n.tdiv 12 + 1970 - 1 = k) := by rcases hq with ⟨a, b, c⟩ | ⟨a, b, c⟩ <;> omega
    have p4 := fun w h (g1 : 1 ≤ k) (g2 : k ≤ 275760) => pad_any k k.toNat (by omega) (by omega) 4 4 rfl (by decide) w h
    have p5 := fun w h => pad_any m m.toNat (by omega) (by omega) 2 2 rfl (by decide) w h
    have l4 : k ≤ 275760 → (padS k.toNat 4).length ≤ 24 := fun h => padS_len k.toNat 4 (by omega)
    have l5 := padS_len m.toNat 2 (by omega)
    generalize padS k.toNat 4 = s4 at *
    generalize padS m.toNat 2 = s5 at *
    have HC := Lib.hid hcase
    have HMM := Lib.hid hmm
    clear hq hk hm hcase hmm HEE HDE
    have hmm := HMM.out
    rcases HC.out with ⟨c1, c2⟩ | ⟨c1, c2⟩
    · clear HC HMM HV
      by_cases g : 1 ≤ k ∧ k ≤ 275760
      · obtain ⟨g1, g2⟩ := g
        have HF : Hid (v = (s4 ++ 45 :: s5, 0)) := Lib.hid (by rw [HVV.out, if_pos ⟨g1, g2⟩])
        have l4' := l4 g2
        have p4' := p4 w4 G4 g1 g2
        clear l4 p4
        go_wp2_with fail
        refine p4'.mono ?_
        rintro ee w5 ⟨rfl, hb5⟩
        have B5 := below_trans B4 hb5
        clear p4'
        go_wp2_with fail
        refine (p5 w5 (hG.below B5)).mono ?_
        rintro ee w6 ⟨rfl, hb6⟩
        go_wp2_with fail
        go_ret2
        exact ⟨ret_si (by rw [HF.out]) (by rw [HF.out]), below_trans B5 hb6⟩
      · have HF : Hid (v = ([], 2)) := Lib.hid (by rw [HVV.out, if_neg g])
        clear p4 p5
        by_cases g1 : 1 ≤ k
        · have g2 : ¬ k ≤ 275760 := fun h => g ⟨g1, h⟩
          clear g
          go_wp2_with fail
          go_ret2
          exact ⟨ret_si (by rw [HF.out]) (by rw [HF.out]), B4⟩
        · clear g
          go_wp2_with fail
          go_ret2
          exact ⟨ret_si (by rw [HF.out]) (by rw [HF.out]), B4⟩
    · clear HC HMM HV
      have c3 : n.tdiv 12 + 1970 = k + 1 := by omega
      have c4 : k + 1 - 1 = k := by omega
      by_cases g : 1 ≤ k ∧ k ≤ 275760
      · obtain ⟨g1, g2⟩ := g
        have HF : Hid (v = (s4 ++ 45 :: s5, 0)) := Lib.hid (by rw [HVV.out, if_pos ⟨g1, g2⟩])
        have l4' := l4 g2
        have p4' := p4 w4 G4 g1 g2
        clear l4 p4
        go_wp2_with fail
        refine p4'.mono ?_
        rintro ee w5 ⟨rfl, hb5⟩
        have B5 := below_trans B4 hb5
        clear p4'
        go_wp2_with fail
        refine (p5 w5 (hG.below B5)).mono ?_
        rintro ee w6 ⟨rfl, hb6⟩
        go_wp2_with fail
        go_ret2
        exact ⟨ret_si (by rw [HF.out]) (by rw [HF.out]), below_trans B5 hb6⟩
      · have HF : Hid (v = ([], 2)) := Lib.hid (by rw [HVV.out, if_neg g])
        clear p4 p5
        by_cases g1 : 1 ≤ k
        · have g2 : ¬ k ≤ 275760 := fun h => g ⟨g1, h⟩
          clear g
          go_wp2_with fail
          go_ret2
          exact ⟨ret_si (by rw [HF.out]) (by rw [HF.out]), B4⟩
        · clear g
          go_wp2_with fail
          go_ret2
          exact ⟨ret_si (by rw [HF.out]) (by rw [HF.out]), B4⟩
  by_cases q3 : kind = 3
  · subst q3
    have hwk := fun w => week_any d hdi w
    have hwdy := fun w => weekday_any d hdi w
    have hx : v = if -719162 ≤ d ∧ d < 100000107 ∧ r = 0 ∧ wd d = 1 then (padS (yearW (dateOf d).1 d).toNat 4 ++ 45 :: 87 :: padS ((d - firstW (yearW (dateOf d).1 d)) / 7 + 1).toNat 2, 0) else ([], 2) := by
      rw [HV.out, show3, ← HD.out, ← HR.out]
    by_cases g1 : -719162 ≤ d ∧ d < 100000107
    · have hwe : weekE d = ((yearW (dateOf d).1 d, (d - firstW (yearW (dateOf d).1 d)) / 7 + 1), 0) := by unfold weekE; rw [if_pos g1]
      have hyb : 1 ≤ yearW (dateOf d).1 d ∧ yearW (dateOf d).1 d ≤ 275760 ∧ 1 ≤ (d - firstW (yearW (dateOf d).1 d)) / 7 + 1 ∧ (d - firstW (yearW (dateOf d).1 d)) / 7 + 1 ≤ 54 := yearW_bounds d g1.1 g1.2
      rw [hwe] at hwk
      dsimp only at hwk
      generalize yearW (dateOf d).1 d = yy at *
      generalize (d - firstW yy) / 7 + 1 = ww at *
      obtain ⟨b1, b2, b3, b4⟩ := hyb
      have p4 := fun w h => pad_any yy yy.toNat (by omega) (by omega) 4 4 rfl (by decide) w h
      have p5 := fun w h => pad_any ww ww.toNat (by omega) (by omega) 2 2 rfl (by decide) w h
      have l4 := padS_len yy.toNat 4 (by omega)
      have l5 := padS_len ww.toNat 2 (by omega)
      generalize padS yy.toNat 4 = s4 at *
      generalize padS ww.toNat 2 = s5 at *
      by_cases g3 : r = 0
      · by_cases g4 : wd d = 1
        · have HF : Hid (v = (s4 ++ 45 :: 87 :: s5, 0)) := Lib.hid (by rw [hx, if_pos ⟨g1.1, g1.2, g3, g4⟩])
          rw [g4] at hwdy
          clear hx g1 g4 HEE HDE hwe
          subst g3
          go_wp2_with fail
          refine (hwk w4).mono ?_
          rintro ee w5 ⟨rfl, rfl⟩
          go_wp2_with fail
          refine (hwdy w4).mono ?_
          rintro ee w5 ⟨rfl, rfl⟩
          go_wp2_with fail
          refine (p4 w4 G4).mono ?_
          rintro ee w5 ⟨rfl, hb5⟩
          have B5 := below_trans B4 hb5
          go_wp2_with fail
          refine (p5 w5 (hG.below B5)).mono ?_
          rintro ee w6 ⟨rfl, hb6⟩
          go_wp2_with fail
          go_ret2
          exact ⟨ret_si (by rw [HF.out]) (by rw [HF.out]), below_trans B5 hb6⟩
        · have HF : Hid (v = ([], 2)) := Lib.hid (by rw [hx, if_neg (fun h => g4 h.2.2.2)])
          have t4 : (wd d == 1) = false := by simpa using g4
          clear hx g1 g4 HEE HDE p4 p5 hwe
          generalize wd d = wdd at *
          subst g3
          go_wp2_with fail
          refine (hwk w4).mono ?_
          rintro ee w5 ⟨rfl, rfl⟩
          go_wp2_with fail
          refine (hwdy w4).mono ?_
          rintro ee w5 ⟨rfl, rfl⟩
          go_wp2_with fail
          go_ret2
          exact ⟨ret_si (by rw [HF.out]) (by rw [HF.out]), B4⟩
      · have HF : Hid (v = ([], 2)) := Lib.hid (by rw [hx, if_neg (fun h => g3 h.2.2.1)])
        have t3 : (r == 0) = false := by simpa using g3
        clear hx g1 g3 HEE HDE p4 p5 hwe
        go_wp2_with fail
        refine (hwk w4).mono ?_
        rintro ee w5 ⟨rfl, rfl⟩
        go_wp2_with fail
        go_ret2
        exact ⟨ret_si (by rw [HF.out]) (by rw [HF.out]), B4⟩
    · have hwe : weekE d = ((0, 0), 2) := by unfold weekE; rw [if_neg g1]
      rw [hwe] at hwk
      dsimp only at hwk
      have HF : Hid (v = ([], 2)) := Lib.hid (by rw [hx, if_neg (fun h => g1 ⟨h.1, h.2.1⟩)])
      clear hx g1 HEE HDE hwe
      go_wp2_with fail
      refine (hwk w4).mono ?_
      rintro ee w5 ⟨rfl, rfl⟩
      go_wp2_with fail
      go_ret2
      exact ⟨ret_si (by rw [HF.out]) (by rw [HF.out]), B4⟩
  by_cases q4 : kind = 4
  · subst q4
    by_cases g1 : 0 ≤ n
    · by_cases g2 : n < 86400000
      · have HF : Hid (v = (clockS n.toNat, 0)) := Lib.hid (by rw [HV.out, show4, if_pos ⟨g1, g2⟩])
        have hc := clock_any n n.toNat (by omega) (by omega) w4 G4
        clear HV HEE HDE
        generalize clockS n.toNat = c at *
        go_wp2_with fail
        refine hc.mono ?_
        rintro ee w5 ⟨rfl, hb5⟩
        go_wp2_with fail
        go_ret2
        exact ⟨ret_si (by rw [HF.out]) (by rw [HF.out]), below_trans B4 hb5⟩
      · have HF : Hid (v = ([], 2)) := Lib.hid (by rw [HV.out, show4, if_neg (fun h => g2 h.2)])
        clear HV HEE HDE
        go_wp2_with fail
        go_ret2
        exact ⟨ret_si (by rw [HF.out]) (by rw [HF.out]), B4⟩
    · have HF : Hid (v = ([], 2)) := Lib.hid (by rw [HV.out, show4, if_neg (fun h => g1 h.1)])
      clear HV HEE HDE
      go_wp2_with fail
      go_ret2
      exact ⟨ret_si (by rw [HF.out]) (by rw [HF.out]), B4⟩
  by_cases q5 : kind = 5
  · subst q5
    have hc := clock_any r r.toNat (by omega) (by omega) w4 G4
    have hcl := clockS_len r.toNat (by omega)
    rcases HEE.out with ⟨g1, g2, rfl⟩ | ⟨g1, rfl⟩
    · have HDD : Hid (dateOf d = ((Y : Int), (M : Int), (D : Int))) := Lib.hid (by rcases HDE.out with ⟨_, _, _, h⟩ | ⟨h, _⟩; exact h; exact absurd ⟨g1, g2⟩ h)
      have HF : Hid (v = (s1 ++ 45 :: (s2 ++ 45 :: (s3 ++ 84 :: clockS r.toNat)), 0)) := Lib.hid (by
        rw [HV.out, show5, ← HD.out, ← HR.out, if_pos ⟨g1, g2⟩, HDD.out, HYMD.out]; simp)
      clear HV HEE HDE
      generalize clockS r.toNat = c at *
      go_wp2_with fail
      refine hc.mono ?_
      rintro ee w5 ⟨rfl, hb5⟩
      go_wp2_with fail
      go_ret2
      exact ⟨ret_si (by rw [HF.out]) (by rw [HF.out]), below_trans B4 hb5⟩
    · have HF : Hid (v = ([], 2)) := Lib.hid (by rw [HV.out, show5, ← HD.out, if_neg g1])
      clear HV HEE HDE g1
      go_wp2_with fail
      go_ret2
      exact ⟨ret_si (by rw [HF.out]) (by rw [HF.out]), B4⟩
  have HF : Hid (v = ([], 3)) := Lib.hid (by rw [HV.out, show0 kind n (by omega)])
  have t1 : (kind == 1) = false := by simpa using q1
  have t2 : (kind == 2) = false := by simpa using q2
  have t3 : (kind == 3) = false := by simpa using q3
  have t4 : (kind == 4) = false := by simpa using q4
  have t5 : (kind == 5) = false := by simpa using q5
  clear q1 q2 q3 q4 q5 HV HEE HDE
  go_wp2_with fail
  go_ret2
  exact ⟨ret_si (by rw [HF.out]) (by rw [HF.out]), B4⟩
end Go.Proofs.YtbhdoocajfkfiaaGreatDoor.mom
