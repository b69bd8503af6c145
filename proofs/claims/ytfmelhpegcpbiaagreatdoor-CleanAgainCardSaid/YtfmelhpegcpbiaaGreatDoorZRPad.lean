/- The contracts of the reference's Pad, Day, Clock. -/
import Derived.Test.YtfmelhpegcpbiaaGreatDoorMc
import Derived.Test.YtfmelhpegcpbiaaGreatDoorZMShow
import Derived.Test.YtfmelhpegcpbiaaGreatDoorZDigits
import Derived.Test.YtfmelhpegcpbiaaGreatDoorMb
import Derived.Deep.RegionHeld3
namespace Go.Proofs.YtfmelhpegcpbiaaGreatDoor.mom
open Go.ChangeShapes Go.WideShapes Go.ChangeAt Go.RowKit Go.Lib Go.Proofs.YtfmelhpegcpbiaaGreatDoor.num Go.Proofs.YtfmelhpegcpbiaaGreatDoor.cal Go.Proofs.YtfmelhpegcpbiaaGreatDoor.days

theorem rep_cons (j : Nat) (d : List UInt8) : 48 :: (List.replicate j 48 ++ d) = List.replicate (j + 1) 48 ++ d := by rw [List.replicate_succ, List.cons_append]

set_option maxHeartbeats 1600000 in
set_option maxRecDepth 100000 in
theorem rpad_any (a : Int) (n : Nat) (ha : a = n) (hn : n ≤ 1000000000000) (b : Int) (k : Nat) (hb : b = k) (hk : k ≤ 10) (w : World) :
    Calls Tryz.prog 96 #[.int .i64 a, .int .i64 b] w fun e w' => e = .returned (.string ⟨(padS n k).toArray⟩) ∧ Below w.heap.size w w' := by
  subst ha
  subst hb
  have hi := fun w => digits_at (n : Int) n rfl (by omega) w
  obtain ⟨d1, d2⟩ := digits_len n hn
  have HV : Hid (padS n k = List.replicate (k - (decDigits n).length) 48 ++ decDigits n) := Lib.hid rfl
  generalize padS n k = v at *
  generalize decDigits n = d at *
  go_enter Tryz.func96, Tryz.ntmps96
  go_wp2_with fail
  refine (hi _).mono ?_
  rintro e w1 ⟨rfl, hb1⟩
  clear hi
  go_wp2_with fail
  go_loopw [5] (fun s5 wr => ∃ (j : Nat) (x : List UInt8), s5 = .string ⟨x.toArray⟩ ∧ j ≤ k - d.length ∧ x.length = j + d.length ∧ Hid (x = List.replicate j 48 ++ d) ∧ Below w.heap.size w wr) (fun s5 _ => 40 - strLen s5)
  case atStart => exact ⟨0, d, rfl, by omega, by omega, Lib.hid (by simp), hb1⟩
  case round =>
    clear hb1
    obtain ⟨j, x, rfl, hj, hx, hh, hb⟩ := hrel
    by_cases hlt : x.length < k
    · have HN : Hid (48 :: x = List.replicate (j + 1) 48 ++ d) := Lib.hid (by rw [hh.out, rep_cons])
      clear hh
      go_wp2_with fail
      go_roundw
      case rel => exact ⟨j + 1, 48 :: x, rfl, by omega, by simp; omega, HN, hb⟩
      case measure => simp [strLen, bsize]; omega
    · have HN : Hid (v = x) := Lib.hid (by rw [HV.out, hh.out, show k - d.length = j from by omega])
      clear hh
      go_wp2_with fail
      go_ret
      exact ⟨ret_str HN.out.symm, hb⟩

theorem held3_below {w w1 w2 : World} {b : Nat} {x y z : Value} (hb : Below w1.heap.size w1 w2) (h : w1.cell? ⟨b, 0, none⟩ = some x ∧ w1.cell? ⟨b, 1, none⟩ = some y ∧ w1.cell? ⟨b, 2, none⟩ = some z ∧ Below w.heap.size w w1) :
    w2.cell? ⟨b, 0, none⟩ = some x ∧ w2.cell? ⟨b, 1, none⟩ = some y ∧ w2.cell? ⟨b, 2, none⟩ = some z ∧ Below w.heap.size w w2 :=
  ⟨cell_below hb h.1, cell_below hb h.2.1, cell_below hb h.2.2.1, below_trans h.2.2.2 hb⟩
theorem held3_drew {w w1 : World} {b : Nat} {x y z : Value} (h : w1.cell? ⟨b, 0, none⟩ = some x ∧ w1.cell? ⟨b, 1, none⟩ = some y ∧ w1.cell? ⟨b, 2, none⟩ = some z ∧ Below w.heap.size w w1) :
    w1.drew.cell? ⟨b, 0, none⟩ = some x ∧ w1.drew.cell? ⟨b, 1, none⟩ = some y ∧ w1.drew.cell? ⟨b, 2, none⟩ = some z ∧ Below w.heap.size w w1.drew :=
  ⟨h.1, h.2.1, h.2.2.1, h.2.2.2.drew⟩
theorem str_add (a b : List UInt8) (h : a.length + b.length ≤ 9223372036854775807) (w : World) : (Op.stringOp .add ⟨a.toArray⟩ ⟨b.toArray⟩).run Tryz.prog w = .ok (.string ⟨(a ++ b).toArray⟩) w := by
  have := run_string_add_sum (P := Tryz.prog) (w := w) ⟨a.toArray⟩ ⟨b.toArray⟩ (by rw [bsize, bsize]; exact h)
  rw [bapp] at this
  exact this
theorem held3_last {a b c d : Prop} (h : a ∧ b ∧ c ∧ d) : d := h.2.2.2

set_option maxHeartbeats 1600000 in
set_option maxRecDepth 100000 in
theorem rday_show (Y M D : Nat) (y1 : Y ≤ 300000) (m1 : M ≤ 100) (d1 : D ≤ 100) (w : World) :
    Calls Tryz.prog 95 #[.agg #[.int .i64 Y, .int .i64 M, .int .i64 D]] w fun e w' => e = .returned (.string ⟨(ymdS ((Y : Int), (M : Int), (D : Int))).toArray⟩) ∧ Below w.heap.size w w' := by
  obtain ⟨yy, hyy⟩ : ∃ x : Int, x = Y := ⟨_, rfl⟩
  obtain ⟨mm, hmm⟩ : ∃ x : Int, x = M := ⟨_, rfl⟩
  obtain ⟨dd, hdd⟩ : ∃ x : Int, x = D := ⟨_, rfl⟩
  have p1 := fun w => rpad_any yy Y hyy (by omega) 4 4 rfl (by decide) w
  have p2 := fun w => rpad_any mm M hmm (by omega) 2 2 rfl (by decide) w
  have p3 := fun w => rpad_any dd D hdd (by omega) 2 2 rfl (by decide) w
  have l1 := padS_len Y 4 (by omega)
  have l2 := padS_len M 2 (by omega)
  have l3 := padS_len D 2 (by omega)
  have HY : Hid (ymdS ((Y : Int), (M : Int), (D : Int)) = padS Y 4 ++ 45 :: (padS M 2 ++ 45 :: padS D 2)) := Lib.hid rfl
  generalize ymdS ((Y : Int), (M : Int), (D : Int)) = v at *
  rw [← hyy, ← hmm, ← hdd]
  clear hyy hmm hdd
  generalize padS Y 4 = s1 at *
  generalize padS M 2 = s2 at *
  generalize padS D 2 = s3 at *
  have hS : (w.alloc (.cells #[.int .i64 yy, .int .i64 mm, .int .i64 dd] 108)).cell? ⟨w.heap.size, 0, none⟩ = some (.int .i64 yy) ∧ (w.alloc (.cells #[.int .i64 yy, .int .i64 mm, .int .i64 dd] 108)).cell? ⟨w.heap.size, 1, none⟩ = some (.int .i64 mm) ∧ (w.alloc (.cells #[.int .i64 yy, .int .i64 mm, .int .i64 dd] 108)).cell? ⟨w.heap.size, 2, none⟩ = some (.int .i64 dd) ∧ Below w.heap.size w (w.alloc (.cells #[.int .i64 yy, .int .i64 mm, .int .i64 dd] 108)) := by
    refine ⟨?_, ?_, ?_, (Below.refl _ _).alloc (Nat.le_refl _) _⟩ <;> (rw [World.cell?_alloc_new]; rfl)
  have HS := Lib.hid hS
  clear hS
  have e1 := fun w => str_add s1 [45] (by simp; omega) w
  have e2 := fun w => str_add (s1 ++ [45]) s2 (by simp; omega) w
  have e3 := fun w => str_add (s1 ++ 45 :: s2) [45] (by simp; omega) w
  have e4 := fun w => str_add (s1 ++ 45 :: (s2 ++ [45])) s3 (by simp; omega) w
  go_enter Tryz.func95, Tryz.ntmps95
  go_wp2_with fail
  have hS := HS.out
  clear HS
  generalize w.alloc (.cells #[.int .i64 yy, .int .i64 mm, .int .i64 dd] 108) = w1 at *
  go_region_held3 (fun w' => w'.cell? ⟨w.heap.size, 0, none⟩ = some (.int .i64 yy) ∧ w'.cell? ⟨w.heap.size, 1, none⟩ = some (.int .i64 mm) ∧ w'.cell? ⟨w.heap.size, 2, none⟩ = some (.int .i64 dd) ∧ Below w.heap.size w w')
    (first | assumption | exact held3_drew hS | (refine held3_below (by assumption) (by assumption)))
    (first | (go_at_call_of 96 (Value.int .i64 yy); refine (p1 _).mono ?_; rintro e w' ⟨rfl, hb⟩) | (go_at_call_of 96 (Value.int .i64 mm); refine (p2 _).mono ?_; rintro e w' ⟨rfl, hb⟩) | (go_at_call_of 96 (Value.int .i64 dd); refine (p3 _).mono ?_; rintro e w' ⟨rfl, hb⟩))
  all_goals
    go_wp2_with fail
    go_ret
    exact ⟨ret_str (by first | (rw [HY.out]; done) | (rw [HY.out]; simp)), held3_last (by assumption)⟩

theorem padS_strip (n : Nat) (h : n < 1000) (h0 : n ≠ 0) : strip (padS n 3) ≠ [] := by
  intro g
  have := thou_back n (by omega) h
  rw [g] at this
  cases this

theorem strip_take (x : List UInt8) (k : Nat) (c : UInt8) (h : x.length = k + 1) (hc : x[k]? = some c) : x = x.take k ++ [c] := by
  have := List.take_add_one (l := x) (i := k)
  rw [hc, List.take_of_length_le (by omega)] at this
  exact this

set_option maxHeartbeats 1600000 in
set_option maxRecDepth 100000 in
theorem rclock_show (a : Int) (n : Nat) (ha : a = n) (hn : n < 86400000) (w : World) :
    Calls Tryz.prog 99 #[.int .i64 a] w fun e w' => e = .returned (.string ⟨(clockS n).toArray⟩) ∧ Below w.heap.size w w' := by
  subst ha
  have p1 := fun w => rpad_any ((n : Int) / 3600000) (n / 3600000) (by omega) (by omega) 2 2 rfl (by decide) w
  have p2 := fun w => rpad_any ((n : Int) / 60000 % 60) (n / 60000 % 60) (by omega) (by omega) 2 2 rfl (by decide) w
  have p3 := fun w => rpad_any ((n : Int) / 1000 % 60) (n % 60000 / 1000) (by omega) (by omega) 2 2 rfl (by decide) w
  have p4 := fun w => rpad_any ((n : Int) % 1000) (n % 60000 % 1000) (by omega) (by omega) 3 3 rfl (by decide) w
  have l1 := padS_len (n / 3600000) 2 (by omega)
  have l2 := padS_len (n / 60000 % 60) 2 (by omega)
  have l3 := padS_len (n % 60000 / 1000) 2 (by omega)
  have l4 := padS_len (n % 60000 % 1000) 3 (by omega)
  have HV : Hid (clockS n = padS (n / 3600000) 2 ++ 58 :: (padS (n / 60000 % 60) 2 ++ partS (n % 60000))) := Lib.hid rfl
  have HP : Hid (partS (n % 60000) = if n % 60000 = 0 then [] else 58 :: (padS (n % 60000 / 1000) 2 ++ (if n % 60000 % 1000 = 0 then [] else 46 :: strip (padS (n % 60000 % 1000) 3)))) := Lib.hid rfl
  generalize clockS n = v at *
  generalize partS (n % 60000) = pp at *
  generalize padS (n / 3600000) 2 = s1 at *
  generalize padS (n / 60000 % 60) 2 = s2 at *
  generalize padS (n % 60000 / 1000) 2 = s3 at *
  go_enter Tryz.func99, Tryz.ntmps99
  go_wp2_with fail
  refine (p1 _).mono ?_
  rintro e w1 ⟨rfl, hb1⟩
  go_wp2_with fail
  refine (p2 _).mono ?_
  rintro e w2 ⟨rfl, hb2⟩
  have B2 := below_trans hb1 hb2
  clear p1 p2 hb1 hb2
  by_cases g1 : n % 60000 = 0
  · have t1 : ((n : Int) % 60000 == 0) = true := by simp; omega
    have HN : Hid (v = s1 ++ 58 :: s2) := Lib.hid (by rw [HV.out, HP.out, if_pos g1]; simp)
    clear g1
    go_wp2_with fail
    go_ret
    exact ⟨ret_str (by first | (rw [HN.out]; done) | (rw [HN.out]; simp)), B2⟩
  have t1 : ((n : Int) % 60000 == 0) = false := by simp; omega
  have HP1 := Lib.hid (HP.out.trans (if_neg g1))
  clear HP g1
  go_wp2_with fail
  refine (p3 _).mono ?_
  rintro e w3 ⟨rfl, hb3⟩
  have B3 := below_trans B2 hb3
  clear p3 B2 hb3
  by_cases g2 : n % 60000 % 1000 = 0
  · have t2 : ((n : Int) % 1000 == 0) = true := by simp; omega
    have HN : Hid (v = s1 ++ 58 :: (s2 ++ 58 :: s3)) := Lib.hid (by rw [HV.out, HP1.out, if_pos g2]; simp)
    clear g2
    go_wp2_with fail
    go_ret
    exact ⟨ret_str (by first | (rw [HN.out]; done) | (rw [HN.out]; simp)), B3⟩
  have t2 : ((n : Int) % 1000 == 0) = false := by simp; omega
  have HN : Hid (v = s1 ++ 58 :: (s2 ++ 58 :: (s3 ++ 46 :: strip (padS (n % 60000 % 1000) 3)))) := Lib.hid (by rw [HV.out, HP1.out, if_neg g2])
  have hq : strip (padS (n % 60000 % 1000) 3) ≠ [] := padS_strip _ (by omega) g2
  have hpl : padS (n % 60000 % 1000) 3 ≠ [] := by intro g; rw [g] at hq; exact hq rfl
  clear HV HP1 g2
  generalize padS (n % 60000 % 1000) 3 = p at *
  obtain ⟨q, hqq⟩ : ∃ q, q = strip p := ⟨_, rfl⟩
  rw [← hqq] at hq
  have HN' : Hid (v = s1 ++ 58 :: (s2 ++ 58 :: (s3 ++ 46 :: q)) ∧ q = strip p ∧ q ≠ [] ∧ p ≠ []) := Lib.hid ⟨by rw [HN.out, hqq], hqq, hq, hpl⟩
  clear HN hqq hq hpl
  go_wp2_with fail
  refine (p4 _).mono ?_
  rintro e w4 ⟨rfl, hb4⟩
  have B4 := below_trans B3 hb4
  clear p4 B3 hb4
  go_wp2_with fail
  go_loopw [4] (fun s4 wr => ∃ (k : Nat) (x : List UInt8), s4 = .string ⟨x.toArray⟩ ∧ x.length = k + 1 ∧ k ≤ 30 ∧ Hid (strip x = q) ∧ Below w.heap.size w wr) (fun s4 _ => strLen s4)
  case atStart =>
    obtain ⟨k, hk⟩ : ∃ k, p.length = k + 1 := by
      cases p with
      | nil => exact absurd rfl HN'.out.2.2.2
      | cons a t => exact ⟨t.length, rfl⟩
    exact ⟨k, p, rfl, hk, by omega, Lib.hid HN'.out.2.1.symm, B4⟩
  case round =>
    clear B4
    obtain ⟨k, x, rfl, hx, hk, hh, hb⟩ := hrel
    obtain ⟨c, h1, h2⟩ := at_byte x k (by omega)
    have hcn := c.toNat_lt
    have hs := strip_take x k c hx h1
    have hs2 := strip_snoc (x.take k) c
    rw [← hs] at hs2
    have hs3 := Lib.hid hs
    clear h1 hs
    by_cases hc : c = 48
    · have t3 : ((c.toNat : Int) == 48) = true := by rw [hc]; rfl
      have HX : Hid (strip (x.take k) = q ∧ ∃ j, k = j + 1) := Lib.hid (by
        rw [if_pos hc] at hs2
        have e := hs2.symm.trans hh.out
        refine ⟨e, ?_⟩
        cases k with
        | zero => exact absurd e.symm HN'.out.2.2.1
        | succ j => exact ⟨j, rfl⟩)
      clear hs2 hh hc
      go_wp2_with fail
      go_roundw
      case rel =>
        obtain ⟨e1, j, rfl⟩ := HX.out
        exact ⟨j, x.take (j + 1), rfl, by simp; omega, by omega, Lib.hid e1, hb⟩
      case measure => simp [strLen, bsize]; omega
    · have t3 : ((c.toNat : Int) == 48) = false := by
        cases g : ((c.toNat : Int) == 48)
        · rfl
        · exact absurd (UInt8.toNat_inj.1 (by have := eq_of_beq g; show c.toNat = 48; omega)) hc
      have HX : Hid (q = x) := Lib.hid (by rw [if_neg hc] at hs2; rw [← hh.out, hs2])
      clear hs2 hh hc
      go_wp2_with fail
      go_ret
      exact ⟨ret_str (by first | (rw [HN'.out.1, HX.out]; done) | (rw [HN'.out.1, HX.out]; simp)), hb⟩
end Go.Proofs.YtfmelhpegcpbiaaGreatDoor.mom
