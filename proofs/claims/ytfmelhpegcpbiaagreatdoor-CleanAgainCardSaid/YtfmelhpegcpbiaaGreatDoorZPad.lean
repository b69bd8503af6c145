/- The contracts of moment.pad, clock, split. -/
import Derived.Test.YtfmelhpegcpbiaaGreatDoorMa
import Derived.Test.YtfmelhpegcpbiaaGreatDoorZWeek
import Derived.Test.YtfmelhpegcpbiaaGreatDoorShelf
import Derived.WalkSpells
import Derived.Lib.AppendIntMem
namespace Go.Proofs.YtfmelhpegcpbiaaGreatDoor.mom
open Go.ChangeShapes Go.WideShapes Go.ChangeAt Go.RowKit Go.Lib Go.Proofs.YtfmelhpegcpbiaaGreatDoor.num Go.Proofs.YtfmelhpegcpbiaaGreatDoor.days Go.Proofs.YtfmelhpegcpbiaaGreatDoor.cal

theorem ret_str {a b : List UInt8} (h : a = b) : Ending.returned (.string ⟨a.toArray⟩) = .returned (.string ⟨b.toArray⟩) := by rw [h]
theorem itoa_any (n : Nat) (hn : n ≤ 1000000000000) (w : World) (hG : G w) :
    Calls Tryz.prog 137 #[.int .i64 (n : Int)] w fun e w' => e = .returned (.string ⟨(decDigits n).toArray⟩) ∧ Below w.heap.size w w' := by
  refine (Tryz.strconv_Itoa (n : Int) (by omega) (by omega) w hG.p10).mono ?_
  rintro e w' ⟨rfl, k, os, rfl⟩
  refine ⟨?_, below_grow _ _ (Nat.le_refl _) _ _⟩
  have : Lib.itoa (n : Int) = decDigits n := by unfold Lib.itoa; rw [if_neg (by omega)]; simp
  rw [this]

theorem repeat_any (k : Nat) (hk : k ≤ 1000) (w : World) :
    Calls Tryz.prog 138 #[.string ⟨#[48]⟩, .int .i64 (k : Int)] w fun e w' => e = .returned (.string ⟨(List.replicate k 48).toArray⟩) ∧ Below w.heap.size w w' := by
  refine (Tryz.strings_Repeat ⟨#[48]⟩ k w (by omega) (by show 1 * k ≤ _; omega)).mono ?_
  rintro e w' ⟨rfl, hb⟩
  refine ⟨?_, hb⟩
  have : Lib.repeatL [48] k = List.replicate k 48 := by
    have := repeatL_replicate 48 1 k
    simpa using this
  show Ending.returned (.string ⟨(Lib.repeatL [48] k).toArray⟩) = _
  rw [this]

theorem nDig_le (u : Nat) (hu : u < 18446744073709551616) : nDigits u ≤ 20 := by
  by_cases h : u = 0
  · subst h; rw [nDigits_small (by omega)]; omega
  · have := numDigits_eq u (by omega) hu
    split at this <;> omega
theorem digits_len (n : Nat) (hn : n ≤ 1000000000000) : 1 ≤ (decDigits n).length ∧ (decDigits n).length ≤ 20 := by
  rw [decDigits_length]
  constructor
  · unfold nDigits; split <;> omega
  · exact nDig_le n (by omega)

set_option maxHeartbeats 1600000 in
set_option maxRecDepth 100000 in
theorem pad_any (a : Int) (n : Nat) (ha : a = n) (hn : n ≤ 1000000000000) (b : Int) (k : Nat) (hb : b = k) (hk : k ≤ 10) (w : World) (hG : G w) :
    Calls Tryz.prog 89 #[.int .i64 a, .int .i64 b] w fun e w' => e = .returned (.string ⟨(padS n k).toArray⟩) ∧ Below w.heap.size w w' := by
  subst ha
  subst hb
  have hi := itoa_any n hn w hG
  obtain ⟨d1, d2⟩ := digits_len n hn
  have HV : Hid (padS n k = List.replicate (k - (decDigits n).length) 48 ++ decDigits n) := Lib.hid rfl
  generalize padS n k = v at *
  generalize decDigits n = d at *
  have hm : max (0 : Int) ((k : Int) - d.length) = ((k - d.length : Nat) : Int) := by omega
  have hr := fun w => repeat_any (k - d.length) (by omega) w
  rw [← hm] at hr
  have hzl : (List.replicate (k - d.length) (48 : UInt8)).length ≤ 10 := by simp; omega
  generalize List.replicate (k - d.length) (48 : UInt8) = z at *
  clear hm
  go_enter Tryz.func89, Tryz.ntmps89
  go_wp2_with fail
  refine hi.mono ?_
  rintro e w1 ⟨rfl, hb1⟩
  clear hi
  go_wp2_with fail
  refine (hr w1).mono ?_
  rintro e w2 ⟨rfl, hb2⟩
  clear hr
  go_wp2_with fail
  go_ret
  exact ⟨ret_str HV.out.symm, below_trans hb1 hb2⟩

theorem quo (n D : Int) (hD : 0 < D) : (0 ≤ n.tmod D ∧ n / D = n.tdiv D ∧ n % D = n.tmod D) ∨ (n.tmod D < 0 ∧ n / D = n.tdiv D - 1 ∧ n % D = n.tmod D + D) := by
  have h0 := Int.tmod_eq_emod (a := n) (b := D)
  have h1 := Int.emod_nonneg n (show D ≠ 0 by omega)
  have h2 := Int.emod_lt_of_pos n hD
  have h3 : ((D.natAbs : Nat) : Int) = D := by omega
  have h4 := Int.mul_tdiv_add_tmod n D
  have h5 := Int.mul_ediv_add_emod n D
  split at h0
  · left
    have e : n.tmod D = n % D := by omega
    refine ⟨by omega, ?_, e.symm⟩
    have : D * (n / D) = D * n.tdiv D := by omega
    exact Int.eq_of_mul_eq_mul_left (by omega) this
  · right
    rename_i hh
    have hnz : n % D ≠ 0 := fun g => hh (.inr (Int.dvd_of_emod_eq_zero g))
    have e : n.tmod D = n % D - D := by omega
    refine ⟨by omega, ?_, by omega⟩
    have : D * (n / D) = D * (n.tdiv D - 1) := by rw [Int.mul_sub, Int.mul_one]; omega
    exact Int.eq_of_mul_eq_mul_left (by omega) this

set_option maxHeartbeats 1600000 in
set_option maxRecDepth 100000 in
theorem split_any (n : Int) (hn : int64 n) (w : World) :
    Calls Tryz.prog 87 #[.int .i64 n] w fun e w' => e = .returned (.tuple #[.int .i64 (n / 86400000), .int .i64 (n % 86400000)]) ∧ Below w.heap.size w w' := by
  have hq := quo n 86400000 (by decide)
  obtain ⟨n1, n2⟩ := hn
  rcases hq with ⟨g1, g2, g3⟩ | ⟨g1, g2, g3⟩
  · have G2 := Lib.hid g2
    have G3 := Lib.hid g3
    clear g2 g3
    go_enter Tryz.func87, Tryz.ntmps87
    go_wp2_with fail
    go_ret2
    exact ⟨ret_ii (by rw [G2.out]) (by rw [G3.out]), Below.refl _ _⟩
  · have b1 : -1000000000000 ≤ n.tdiv 86400000 - 1 := by omega
    have b2 : n.tdiv 86400000 - 1 ≤ 1000000000000 := by omega
    have b3 : -86400000 ≤ n.tmod 86400000 + 86400000 := by omega
    have b4 : n.tmod 86400000 + 86400000 ≤ 86400000 := by omega
    have G2 := Lib.hid g2
    have G3 := Lib.hid g3
    clear g2 g3
    go_enter Tryz.func87, Tryz.ntmps87
    go_wp2_with fail
    go_ret2
    exact ⟨ret_ii (by rw [G2.out]) (by rw [G3.out]), Below.refl _ _⟩

theorem padS_len (n k : Nat) (hn : n ≤ 1000000000000) : (padS n k).length ≤ k + 20 := by
  have := digits_len n hn
  unfold padS
  rw [List.length_append, List.length_replicate]; omega

theorem trim_any (l : List UInt8) (hl : l.length ≤ 1000000) (w : World) :
    Calls Tryz.prog 75 #[.string ⟨l.toArray⟩, .string ⟨#[48]⟩] w fun e w' => e = .returned (.string ⟨(strip l).toArray⟩) ∧ w = w' := by
  refine (Tryz.strings_TrimRight_one ⟨l.toArray⟩ 48 (by decide) w (by rw [bsize]; omega)).mono ?_
  rintro e w' ⟨rfl, rfl⟩
  have e1 : (⟨l.toArray⟩ : ByteArray).data.toList = l := rfl
  rw [e1, ← trimRightS_one, strip_trim]
  exact ⟨rfl, rfl⟩

set_option maxHeartbeats 1600000 in
set_option maxRecDepth 100000 in
theorem clock_any (a : Int) (n : Nat) (ha : a = n) (hn : n < 86400000) (w : World) (hG : G w) :
    Calls Tryz.prog 92 #[.int .i64 a] w fun e w' => e = .returned (.string ⟨(clockS n).toArray⟩) ∧ Below w.heap.size w w' := by
  subst ha
  have p1 := fun w h => pad_any ((n : Int) / 3600000) (n / 3600000) (by omega) (by omega) 2 2 rfl (by decide) w h
  have p2 := fun w h => pad_any ((n : Int) / 60000 % 60) (n / 60000 % 60) (by omega) (by omega) 2 2 rfl (by decide) w h
  have p3 := fun w h => pad_any ((n : Int) % 60000 / 1000) (n % 60000 / 1000) (by omega) (by omega) 2 2 rfl (by decide) w h
  have p4 := fun w h => pad_any ((n : Int) % 1000) (n % 60000 % 1000) (by omega) (by omega) 3 3 rfl (by decide) w h
  have l1 := padS_len (n / 3600000) 2 (by omega)
  have l2 := padS_len (n / 60000 % 60) 2 (by omega)
  have l3 := padS_len (n % 60000 / 1000) 2 (by omega)
  have l4 := padS_len (n % 60000 % 1000) 3 (by omega)
  have ht := fun w => trim_any (padS (n % 60000 % 1000) 3) (by omega) w
  have l5 := strip_le (padS (n % 60000 % 1000) 3)
  have hV : clockS n = padS (n / 3600000) 2 ++ 58 :: (padS (n / 60000 % 60) 2 ++ (if n % 60000 = 0 then [] else 58 :: (padS (n % 60000 / 1000) 2 ++ (if n % 60000 % 1000 = 0 then [] else 46 :: strip (padS (n % 60000 % 1000) 3))))) := rfl
  generalize clockS n = v at *
  generalize padS (n / 3600000) 2 = s1 at *
  generalize padS (n / 60000 % 60) 2 = s2 at *
  generalize padS (n % 60000 / 1000) 2 = s3 at *
  generalize strip (padS (n % 60000 % 1000) 3) = s5 at *
  generalize padS (n % 60000 % 1000) 3 = s4 at *
  by_cases g1 : n % 60000 = 0
  · have HV : Hid (v = s1 ++ 58 :: s2) := Lib.hid (by rw [hV, if_pos g1]; simp)
    have t1 : ((n : Int) % 60000 == 0) = true := by simp; omega
    clear hV g1 ht p3 p4
    go_enter Tryz.func92, Tryz.ntmps92
    go_wp2_with fail
    refine (p1 w hG).mono ?_
    rintro e w1 ⟨rfl, hb1⟩
    have G1 := hG.below hb1
    go_wp2_with fail
    refine (p2 w1 G1).mono ?_
    rintro e w2 ⟨rfl, hb2⟩
    have B2 := below_trans hb1 hb2
    clear p1 p2 hb1 hb2 G1
    go_wp2_with fail
    go_ret
    exact ⟨ret_str (by rw [HV.out]), B2⟩
  · rw [if_neg g1] at hV
    have t1 : ((n : Int) % 60000 == 0) = false := by simp; omega
    by_cases g2 : n % 60000 % 1000 = 0
    · have HV : Hid (v = s1 ++ 58 :: (s2 ++ 58 :: s3)) := Lib.hid (by rw [hV, if_pos g2]; simp)
      have t2 : ¬ (0 : Int) < (n : Int) % 1000 := by omega
      clear hV g1 g2 ht p4
      go_enter Tryz.func92, Tryz.ntmps92
      go_wp2_with fail
      refine (p1 w hG).mono ?_
      rintro e w1 ⟨rfl, hb1⟩
      have G1 := hG.below hb1
      go_wp2_with fail
      refine (p2 w1 G1).mono ?_
      rintro e w2 ⟨rfl, hb2⟩
      have B2 := below_trans hb1 hb2
      clear p1 p2 hb1 hb2 G1
      go_wp2_with fail
      refine (p3 w2 (hG.below B2)).mono ?_
      rintro e w3 ⟨rfl, hb3⟩
      have B3 := below_trans B2 hb3
      clear p3 hb3 B2
      go_wp2_with fail
      go_ret
      exact ⟨ret_str (by first | (rw [HV.out]; done) | (rw [HV.out]; simp)), B3⟩
    · have HV : Hid (v = s1 ++ 58 :: (s2 ++ 58 :: (s3 ++ 46 :: s5))) := Lib.hid (by rw [hV, if_neg g2])
      have t2 : (0 : Int) < (n : Int) % 1000 := by omega
      clear hV g1 g2
      go_enter Tryz.func92, Tryz.ntmps92
      go_wp2_with fail
      refine (p1 w hG).mono ?_
      rintro e w1 ⟨rfl, hb1⟩
      have G1 := hG.below hb1
      go_wp2_with fail
      refine (p2 w1 G1).mono ?_
      rintro e w2 ⟨rfl, hb2⟩
      have B2 := below_trans hb1 hb2
      clear p1 p2 hb1 hb2 G1
      go_wp2_with fail
      refine (p3 w2 (hG.below B2)).mono ?_
      rintro e w3 ⟨rfl, hb3⟩
      have B3 := below_trans B2 hb3
      clear p3 hb3 B2
      go_wp2_with fail
      refine (p4 w3 (hG.below B3)).mono ?_
      rintro e w4 ⟨rfl, hb4⟩
      have B4 := below_trans B3 hb4
      clear p4 hb4 B3
      go_wp2_with fail
      refine (ht w4).mono ?_
      rintro e w5 ⟨rfl, rfl⟩
      go_wp2_with fail
      go_ret
      exact ⟨ret_str (by first | (rw [HV.out]; done) | (rw [HV.out]; simp)), B4⟩
end Go.Proofs.YtfmelhpegcpbiaaGreatDoor.mom
