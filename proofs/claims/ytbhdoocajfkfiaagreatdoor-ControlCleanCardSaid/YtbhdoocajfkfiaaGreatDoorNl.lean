/- The contracts of the reference's Pad, Day, Clock. The contract of the reference's Show: it answers what the program's does. -/
import Derived.Test.YtbhdoocajfkfiaaGreatDoorMc
import Derived.Test.YtbhdoocajfkfiaaGreatDoorNh
import Derived.Test.YtbhdoocajfkfiaaGreatDoorNe
import Derived.Test.YtbhdoocajfkfiaaGreatDoorMb
import Derived.Deep.RegionHeld3
import Derived.Test.YtbhdoocajfkfiaaGreatDoorMa
namespace Go.Proofs.YtbhdoocajfkfiaaGreatDoor.mom
open Go.ChangeShapes Go.WideShapes Go.ChangeAt Go.RowKit Go.Lib Go.Proofs.YtbhdoocajfkfiaaGreatDoor.num Go.Proofs.YtbhdoocajfkfiaaGreatDoor.cal Go.Proofs.YtbhdoocajfkfiaaGreatDoor.days

theorem rep_cons (j : Nat) (d : List UInt8) : 48 :: (List.replicate j 48 ++ d) = List.replicate (j + 1) 48 ++ d := by rw [List.replicate_succ, List.cons_append]

set_option maxHeartbeats 1600000 in
set_option maxRecDepth 100000 in
theorem rpad_any (a : Int) (n : Nat) (ha : a = n) (hn : n ≤ 1000000000000) (b : Int) (k : Nat) (hb : b = k) (hk : k ≤ 10) (w : World) :
    Calls Tryz.prog 166 #[.int .i64 a, .int .i64 b] w fun e w' => e = .returned (.string ⟨(padS n k).toArray⟩) ∧ Below w.heap.size w w' := by
  subst ha
  subst hb
  have hi := fun w => digits_at (n : Int) n rfl (by omega) w
  obtain ⟨d1, d2⟩ := digits_len n hn
  have HV : Hid (padS n k = List.replicate (k - (decDigits n).length) 48 ++ decDigits n) := Lib.hid rfl
  generalize padS n k = v at *
  generalize decDigits n = d at *
  go_enter Tryz.func166, Tryz.ntmps166
  go_wp2_with fail
  refine (hi _).mono ?_
  rintro e w1 ⟨rfl, hb1⟩
  clear hi
  go_wp2_with fail
  go_loopw [5] (fun s5 wr => ∃ (j : Nat) (x : List UInt8), s5 = .string ⟨x.toArray⟩ ∧ j ≤ k - d.length ∧ x.length = j + d.length ∧ Hid (x = List.replicate j 48 ++ d) ∧ Below w.heap.size w wr) (fun s5 _ => 40 - strLen s5)
  case atStart => exact ⟨0, d, rfl, by omega, by omega, Lib.hid (by simp), hb1⟩
  case round =>
    clear hb1
    obtain ⟨j, x, rfl, hj, hx, hh, hb⟩ := hrel
    by_cases hlt : x.length < k
    · have HN : Hid (48 :: x = List.replicate (j + 1) 48 ++ d) := Lib.hid (by rw [hh.out, rep_cons])
      clear hh
      go_wp2_with fail
      go_roundw
      case rel => exact ⟨j + 1, 48 :: x, rfl, by omega, by simp; omega, HN, hb⟩
      case measure => simp [strLen, bsize]; omega
    · have HN : Hid (v = x) := Lib.hid (by rw [HV.out, hh.out, show k - d.length = j from by omega])
      clear hh
      go_wp2_with fail
      go_ret
      exact ⟨ret_str HN.out.symm, hb⟩

theorem held3_below {w w1 w2 : World} {b : Nat} {x y z : Value} (hb : Below w1.heap.size w1 w2) (h : w1.cell? ⟨b, 0, none⟩ = some x ∧ w1.cell? ⟨b, 1, none⟩ = some y ∧ w1.cell? ⟨b, 2, none⟩ = some z ∧ Below w.heap.size w w1) :
    w2.cell? ⟨b, 0, none⟩ = some x ∧ w2.cell? ⟨b, 1, none⟩ = some y ∧ w2.cell? ⟨b, 2, none⟩ = some z ∧ Below w.heap.size w w2 :=
  ⟨cell_below hb h.1, cell_below hb h.2.1, cell_below hb h.2.2.1, below_trans h.2.2.2 hb⟩
theorem held3_drew {w w1 : World} {b : Nat} {x y z : Value} (h : w1.cell? ⟨b, 0, none⟩ = some x ∧ w1.cell? ⟨b, 1, none⟩ = some y ∧ w1.cell? ⟨b, 2, none⟩ = some z ∧ Below w.heap.size w w1) :
    w1.drew.cell? ⟨b, 0, none⟩ = some x ∧ w1.drew.cell? ⟨b, 1, none⟩ = some y ∧ w1.drew.cell? ⟨b, 2, none⟩ = some z ∧ Below w.heap.size w w1.drew :=
  ⟨h.1, h.2.1, h.2.2.1, h.2.2.2.drew⟩
theorem str_add (a b : List UInt8) (h : a.length + b.length ≤ 9223372036854775807) (w : World) : (Op.stringOp .add ⟨a.toArray⟩ ⟨b.toArray⟩).run Tryz.prog w = .ok (.string ⟨(a ++ b).toArray⟩) w := by
  have := run_string_add_sum (P := Tryz.prog) (w := w) ⟨a.toArray⟩ ⟨b.toArray⟩ (by rw [bsize, bsize]; exact h)
  rw [bapp] at this
  exact this
theorem held3_last {a b c d : Prop} (h : a ∧ b ∧ c ∧ d) : d := h.2.2.2

set_option maxHeartbeats 1600000 in
set_option maxRecDepth 100000 in
theorem rday_show (Y M D : Nat) (y1 : Y ≤ 300000) (m1 : M ≤ 100) (d1 : D ≤ 100) (w : World) :
    Calls Tryz.prog 165 #[.agg #[.int .i64 Y, .int .i64 M, .int .i64 D]] w fun e w' => e = .returned (.string ⟨(ymdS ((Y : Int), (M : Int), (D : Int))).toArray⟩) ∧ Below w.heap.size w w' := by
  obtain ⟨yy, hyy⟩ : ∃ x : Int, x = Y := ⟨_, rfl⟩
  obtain ⟨mm, hmm⟩ : ∃ x : Int, x = M := ⟨_, rfl⟩
  obtain ⟨dd, hdd⟩ : ∃ x : Int, x = D := ⟨_, rfl⟩
  have p1 := fun w => rpad_any yy Y hyy (by omega) 4 4 rfl (by decide) w
  have p2 := fun w => rpad_any mm M hmm (by omega) 2 2 rfl (by decide) w
  have p3 := fun w => rpad_any dd D hdd (by omega) 2 2 rfl (by decide) w
  have l1 := padS_len Y 4 (by omega)
  have l2 := padS_len M 2 (by omega)
  have l3 := padS_len D 2 (by omega)
  have HY : Hid (ymdS ((Y : Int), (M : Int), (D : Int)) = padS Y 4 ++ 45 :: (padS M 2 ++ 45 :: padS D 2)) := Lib.hid rfl
  generalize ymdS ((Y : Int), (M : Int), (D : Int)) = v at *
  rw [← hyy, ← hmm, ← hdd]
  clear hyy hmm hdd
  generalize padS Y 4 = s1 at *
  generalize padS M 2 = s2 at *
  generalize padS D 2 = s3 at *
  have hS : (w.alloc (.cells #[.int .i64 yy, .int .i64 mm, .int .i64 dd] 149)).cell? ⟨w.heap.size, 0, none⟩ = some (.int .i64 yy) ∧ (w.alloc (.cells #[.int .i64 yy, .int .i64 mm, .int .i64 dd] 149)).cell? ⟨w.heap.size, 1, none⟩ = some (.int .i64 mm) ∧ (w.alloc (.cells #[.int .i64 yy, .int .i64 mm, .int .i64 dd] 149)).cell? ⟨w.heap.size, 2, none⟩ = some (.int .i64 dd) ∧ Below w.heap.size w (w.alloc (.cells #[.int .i64 yy, .int .i64 mm, .int .i64 dd] 149)) := by
    refine ⟨?_, ?_, ?_, (Below.refl _ _).alloc (Nat.le_refl _) _⟩ <;> (rw [World.cell?_alloc_new]; rfl)
  have HS := Lib.hid hS
  clear hS
  have e1 := fun w => str_add s1 [45] (by simp; omega) w
  have e2 := fun w => str_add (s1 ++ [45]) s2 (by simp; omega) w
  have e3 := fun w => str_add (s1 ++ 45 :: s2) [45] (by simp; omega) w
  have e4 := fun w => str_add (s1 ++ 45 :: (s2 ++ [45])) s3 (by simp; omega) w
  go_enter Tryz.func165, Tryz.ntmps165
  go_wp2_with fail
  have hS := HS.out
  clear HS
  generalize w.alloc (.cells #[.int .i64 yy, .int .i64 mm, .int .i64 dd] 149) = w1 at *
  go_region_held3 (fun w' => w'.cell? ⟨w.heap.size, 0, none⟩ = some (.int .i64 yy) ∧ w'.cell? ⟨w.heap.size, 1, none⟩ = some (.int .i64 mm) ∧ w'.cell? ⟨w.heap.size, 2, none⟩ = some (.int .i64 dd) ∧ Below w.heap.size w w')
    (first | assumption | exact held3_drew hS | (refine held3_below (by assumption) (by assumption)))
    (first | (go_at_call_of 166 (Value.int .i64 yy); refine (p1 _).mono ?_; rintro e w' ⟨rfl, hb⟩) | (go_at_call_of 166 (Value.int .i64 mm); refine (p2 _).mono ?_; rintro e w' ⟨rfl, hb⟩) | (go_at_call_of 166 (Value.int .i64 dd); refine (p3 _).mono ?_; rintro e w' ⟨rfl, hb⟩))
  all_goals
    go_wp2_with fail
    go_ret
    exact ⟨ret_str (by first | (rw [HY.out]; done) | (rw [HY.out]; simp)), held3_last (by assumption)⟩

theorem padS_strip (n : Nat) (h : n < 1000) (h0 : n ≠ 0) : strip (padS n 3) ≠ [] := by
  intro g
  have := thou_back n (by omega) h
  rw [g] at this
  cases this

theorem strip_take (x : List UInt8) (k : Nat) (c : UInt8) (h : x.length = k + 1) (hc : x[k]? = some c) : x = x.take k ++ [c] := by
  have := List.take_add_one (l := x) (i := k)
  rw [hc, List.take_of_length_le (by omega)] at this
  exact this

set_option maxHeartbeats 1600000 in
set_option maxRecDepth 100000 in
theorem rclock_show (a : Int) (n : Nat) (ha : a = n) (hn : n < 86400000) (w : World) :
    Calls Tryz.prog 169 #[.int .i64 a] w fun e w' => e = .returned (.string ⟨(clockS n).toArray⟩) ∧ Below w.heap.size w w' := by
  subst ha
  have p1 := fun w => rpad_any ((n : Int) / 3600000) (n / 3600000) (by omega) (by omega) 2 2 rfl (by decide) w
  have p2 := fun w => rpad_any ((n : Int) / 60000 % 60) (n / 60000 % 60) (by omega) (by omega) 2 2 rfl (by decide) w
  have p3 := fun w => rpad_any ((n : Int) / 1000 % 60) (n % 60000 / 1000) (by omega) (by omega) 2 2 rfl (by decide) w
  have p4 := fun w => rpad_any ((n : Int) % 1000) (n % 60000 % 1000) (by omega) (by omega) 3 3 rfl (by decide) w
  have l1 := padS_len (n / 3600000) 2 (by omega)
  have l2 := padS_len (n / 60000 % 60) 2 (by omega)
  have l3 := padS_len (n % 60000 / 1000) 2 (by omega)
  have l4 := padS_len (n % 60000 % 1000) 3 (by omega)
  have HV : Hid (clockS n = padS (n / 3600000) 2 ++ 58 :: (padS (n / 60000 % 60) 2 ++ partS (n % 60000))) := Lib.hid rfl
  have HP : Hid (partS (n % 60000) = if n % 60000 = 0 then [] else 58 :: (padS (n % 60000 / 1000) 2 ++ (if n % 60000 % 1000 = 0 then [] else 46 :: strip (padS (n % 60000 % 1000) 3)))) := Lib.hid rfl
  generalize clockS n = v at *
  generalize partS (n % 60000) = pp at *
  generalize padS (n / 3600000) 2 = s1 at *
  generalize padS (n / 60000 % 60) 2 = s2 at *
  generalize padS (n % 60000 / 1000) 2 = s3 at *
  go_enter Tryz.func169, Tryz.ntmps169
  go_wp2_with fail
  refine (p1 _).mono ?_
  rintro e w1 ⟨rfl, hb1⟩
  go_wp2_with fail
  refine (p2 _).mono ?_
  rintro e w2 ⟨rfl, hb2⟩
  have B2 := below_trans hb1 hb2
  clear p1 p2 hb1 hb2
  by_cases g1 : n % 60000 = 0
  · have t1 : ((n : Int) % 60000 == 0) = true := by simp; omega
    have HN : Hid (v = s1 ++ 58 :: s2) := Lib.hid (by rw [HV.out, HP.out, if_pos g1]; simp)
    clear g1
    go_wp2_with fail
    go_ret
    exact ⟨ret_str (by first | (rw [HN.out]; done) | (rw [HN.out]; simp)), B2⟩
  have t1 : ((n : Int) % 60000 == 0) = false := by simp; omega
  have HP1 := Lib.hid (HP.out.trans (if_neg g1))
  clear HP g1
  go_wp2_with fail
  refine (p3 _).mono ?_
  rintro e w3 ⟨rfl, hb3⟩
  have B3 := below_trans B2 hb3
  clear p3 B2 hb3
  by_cases g2 : n % 60000 % 1000 = 0
  · have t2 : ((n : Int) % 1000 == 0) = true := by simp; omega
    have HN : Hid (v = s1 ++ 58 :: (s2 ++ 58 :: s3)) := Lib.hid (by rw [HV.out, HP1.out, if_pos g2]; simp)
    clear g2
    go_wp2_with fail
    go_ret
    exact ⟨ret_str (by first | (rw [HN.out]; done) | (rw [HN.out]; simp)), B3⟩
  have t2 : ((n : Int) % 1000 == 0) = false := by simp; omega
  have HN : Hid (v = s1 ++ 58 :: (s2 ++ 58 :: (s3 ++ 46 :: strip (padS (n % 60000 % 1000) 3)))) := Lib.hid (by rw [HV.out, HP1.out, if_neg g2])
  have hq : strip (padS (n % 60000 % 1000) 3) ≠ [] := padS_strip _ (by omega) g2
  have hpl : padS (n % 60000 % 1000) 3 ≠ [] := by intro g; rw [g] at hq; exact hq rfl
  clear HV HP1 g2
  generalize padS (n % 60000 % 1000) 3 = p at *
  obtain ⟨q, hqq⟩ : ∃ q, q = strip p := ⟨_, rfl⟩
  rw [← hqq] at hq
  have HN' : Hid (v = s1 ++ 58 :: (s2 ++ 58 :: (s3 ++ 46 :: q)) ∧ q = strip p ∧ q ≠ [] ∧ p ≠ []) := Lib.hid ⟨by rw [HN.out, hqq], hqq, hq, hpl⟩
  clear HN hqq hq hpl
  go_wp2_with fail
  refine (p4 _).mono ?_
  rintro e w4 ⟨rfl, hb4⟩
  have B4 := below_trans B3 hb4
  clear p4 B3 hb4
  go_wp2_with fail
  go_loopw [4] (fun s4 wr => ∃ (k : Nat) (x : List UInt8), s4 = .string ⟨x.toArray⟩ ∧ x.length = k + 1 ∧ k ≤ 30 ∧ Hid (strip x = q) ∧ Below w.heap.size w wr) (fun s4 _ => strLen s4)
  case atStart =>
    obtain ⟨k, hk⟩ : ∃ k, p.length = k + 1 := by
      cases p with
      | nil => exact absurd rfl HN'.out.2.2.2
      | cons a t => exact ⟨t.length, rfl⟩
    exact ⟨k, p, rfl, hk, by omega, Lib.hid HN'.out.2.1.symm, B4⟩
  case round =>
    clear B4
    obtain ⟨k, x, rfl, hx, hk, hh, hb⟩ := hrel
    obtain ⟨c, h1, h2⟩ := at_byte x k (by omega)
    have hcn := c.toNat_lt
    have hs := strip_take x k c hx h1
    have hs2 := strip_snoc (x.take k) c
    rw [← hs] at hs2
    have hs3 := Lib.hid hs
    clear h1 hs
    by_cases hc : c = 48
    · have t3 : ((c.toNat : Int) == 48) = true := by rw [hc]; rfl
      have HX : Hid (strip (x.take k) = q ∧ ∃ j, k = j + 1) := Lib.hid (by
        rw [if_pos hc] at hs2
        have e := hs2.symm.trans hh.out
        refine ⟨e, ?_⟩
        cases k with
        | zero => exact absurd e.symm HN'.out.2.2.1
        | succ j => exact ⟨j, rfl⟩)
      clear hs2 hh hc
      go_wp2_with fail
      go_roundw
      case rel =>
        obtain ⟨e1, j, rfl⟩ := HX.out
        exact ⟨j, x.take (j + 1), rfl, by simp; omega, by omega, Lib.hid e1, hb⟩
      case measure => simp [strLen, bsize]; omega
    · have t3 : ((c.toNat : Int) == 48) = false := by
        cases g : ((c.toNat : Int) == 48)
        · rfl
        · exact absurd (UInt8.toNat_inj.1 (by have := eq_of_beq g; show c.toNat = 48; omega)) hc
      have HX : Hid (q = x) := Lib.hid (by rw [if_neg hc] at hs2; rw [← hh.out, hs2])
      clear hs2 hh hc
      go_wp2_with fail
      go_ret
      exact ⟨ret_str (by first | (rw [HN'.out.1, HX.out]; done) | (rw [HN'.out.1, HX.out]; simp)), hb⟩
end Go.Proofs.YtbhdoocajfkfiaaGreatDoor.mom

namespace Go.Proofs.YtbhdoocajfkfiaaGreatDoor.mom
open Go.ChangeShapes Go.WideShapes Go.ChangeAt Go.RowKit Go.Lib Go.Proofs.YtbhdoocajfkfiaaGreatDoor.num Go.Proofs.YtbhdoocajfkfiaaGreatDoor.cal Go.Proofs.YtbhdoocajfkfiaaGreatDoor.days

theorem rret_si {a b : List UInt8} {c d : Int} (h : a = b) (g : c = d) : Ending.returned (.tuple #[.string ⟨a.toArray⟩, .int .i64 c]) = .returned (.tuple #[.string ⟨b.toArray⟩, .int .i64 d]) := by rw [h, g]
/-- rounding down, as the reference does it -/
theorem floor_dec (n D : Int) (hD : 0 < D) : n / D = if (decide (n < 0) && decide (0 < n % D)) = true then n.tdiv D - 1 else n.tdiv D := by
  have h2 := Int.emod_lt_of_pos n hD
  have h3 := quo n D hD
  by_cases g : n < 0
  · have e1 : (-n).tmod D = -(n.tmod D) := Int.neg_tmod n D
    have e2 : 0 ≤ (-n).tmod D := Int.tmod_nonneg D (by omega)
    have e3 : (-n).tmod D < D := Int.tmod_lt_of_pos _ hD
    rw [decide_eq_true g, Bool.true_and]
    by_cases k : 0 < n % D
    · rw [if_pos (decide_eq_true k)]
      omega
    · rw [if_neg (by rw [decide_eq_false k]; decide)]
      omega
  · have e2 : 0 ≤ n.tmod D := Int.tmod_nonneg D (by omega)
    rw [if_neg (by rw [decide_eq_false g, Bool.false_and]; decide)]
    omega

set_option maxHeartbeats 3200000 in
set_option maxRecDepth 100000 in
theorem rshow_any (kind n : Int) (hk : int64 kind) (hn : int64 n) (w : World) :
    Calls Tryz.prog 120 #[.int .i64 kind, .int .i64 n] w fun e w' => e = .returned (.tuple #[.string ⟨(showM kind n).1.toArray⟩, .int .i64 (showM kind n).2]) ∧ Below w.heap.size w w' := by
  obtain ⟨v, hv⟩ : ∃ v, v = showM kind n := ⟨_, rfl⟩
  rw [← hv]
  have HV := Lib.hid hv
  clear hv
  obtain ⟨k1, k2⟩ := hk
  obtain ⟨n1, n2⟩ := hn
  by_cases b1 : kind < 1
  · have HN : Hid (v = ([], 3)) := Lib.hid (by rw [HV.out, show0 kind n (by omega)])
    go_enter Tryz.func120, Tryz.ntmps120
    go_wp2_with fail
    go_ret2
    exact ⟨rret_si (by rw [HN.out]) (by rw [HN.out]), Below.refl _ _⟩
  by_cases b2 : 5 < kind
  · have HN : Hid (v = ([], 3)) := Lib.hid (by rw [HV.out, show0 kind n (by omega)])
    go_enter Tryz.func120, Tryz.ntmps120
    go_wp2_with fail
    go_ret2
    exact ⟨rret_si (by rw [HN.out]) (by rw [HN.out]), Below.refl _ _⟩
  have hkk : kind = 1 ∨ kind = 2 ∨ kind = 3 ∨ kind = 4 ∨ kind = 5 := by omega
  clear b1 b2 k1 k2
  have hL := fun w => Go.Proofs.YtbhdoocajfkfiaaGreatDoor.fits.refleft_any n 86400000 w (by decide) (by decide) n1 n2
  have hM := fun w => Go.Proofs.YtbhdoocajfkfiaaGreatDoor.fits.refleft_any n 12 w (by decide) (by decide) n1 n2
  unfold Go.Proofs.YtbhdoocajfkfiaaGreatDoor.fits.lft at hL hM
  have hfl := floor_dec n 86400000 (by decide)
  have hfm := floor_dec n 12 (by decide)
  obtain ⟨d, hd⟩ : ∃ d, d = n / 86400000 := ⟨_, rfl⟩
  obtain ⟨r, hr⟩ : ∃ r, r = n % 86400000 := ⟨_, rfl⟩
  obtain ⟨y, hy⟩ : ∃ y, y = n / 12 := ⟨_, rfl⟩
  obtain ⟨m, hm⟩ : ∃ m, m = n % 12 := ⟨_, rfl⟩
  rw [← hr] at hL hfl
  rw [← hd] at hfl
  rw [← hm] at hM hfm
  rw [← hy] at hfm
  have hdi : int64 d := by unfold int64; omega
  have r1 : 0 ≤ r := by omega
  have r2 : r < 86400000 := by omega
  have m1 : 0 ≤ m := by omega
  have m2 : m < 12 := by omega
  have y1 : -800000000000000000 ≤ y := by omega
  have y2 : y ≤ 800000000000000000 := by omega
  have hda := fun w => rdate_any d hdi w
  have hwk := fun w => rweek_any d hdi w
  have hwd := fun w => rweekday_any d hdi w
  obtain ⟨Y, M, D, q1, q2, q3, hde⟩ := dateE_nat d
  have HDE := Lib.hid hde
  obtain ⟨e, he⟩ : ∃ e, e = (dateE d).2 := ⟨_, rfl⟩
  have hde2 : dateE d = (((Y : Int), (M : Int), (D : Int)), e) := by rw [he]; rcases hde with ⟨_, _, h, _⟩ | ⟨_, h⟩ <;> rw [h]
  rw [hde2] at hda
  dsimp only at hda
  have hee : (-719162 ≤ d ∧ d ≤ 100000109 ∧ e = 0) ∨ (¬ (-719162 ≤ d ∧ d ≤ 100000109) ∧ e = 2) := by
    rw [he]
    rcases hde with ⟨a, b, h, _⟩ | ⟨a, h⟩
    · rw [h]; exact .inl ⟨a, b, rfl⟩
    · rw [h]; exact .inr ⟨a, rfl⟩
  have HEE := Lib.hid hee
  have hD := fun w => rday_show Y M D (by omega) (by omega) (by omega) w
  have HFL := Lib.hid hfl
  have HFM := Lib.hid hfm
  have HD := Lib.hid hd
  have HR := Lib.hid hr
  have HY := Lib.hid hy
  have HM := Lib.hid hm
  have ht1 : -200000000000 ≤ n.tdiv 86400000 ∧ n.tdiv 86400000 ≤ 200000000000 := by
    have := quo n 86400000 (by decide); omega
  have ht2 : -800000000000000000 ≤ n.tdiv 12 ∧ n.tdiv 12 ≤ 800000000000000000 := by
    have := quo n 12 (by decide); omega
  obtain ⟨t1, t2⟩ := ht1
  obtain ⟨t3, t4⟩ := ht2
  clear hee hde he hde2 hfl hfm hd hr hy hm
  go_enter Tryz.func120, Tryz.ntmps120
  go_wp2_with fail
  refine (hL _).mono ?_
  rintro e' w' ⟨rfl, rfl⟩
  clear hL
  go_upto_region 5 with fail
  go_cut [29] (fun s29 wx => s29 = .bool (decide (n < 0) && decide (0 < r)) ∧ w = wx)
  case first =>
    by_cases g1 : n < 0
    · by_cases g2 : 0 < r
      · go_wp2_with fail
        go_meet
        exact ⟨by simp [g1, g2], rfl⟩
      · go_wp2_with fail
        go_meet
        exact ⟨by simp [g1, g2], rfl⟩
    · go_wp2_with fail
      go_meet
      exact ⟨by simp; try omega, rfl⟩
  case rest =>
  obtain ⟨rfl, rfl⟩ := hcut
  generalize (decide (n < 0) && decide (0 < r)) = bb at *
  go_upto_if 29 with fail
  go_cut [7] (fun s7 wx => s7 = .int .i64 d ∧ w = wx)
  case first =>
    cases bb
    · have HX : Hid (d = n.tdiv 86400000) := Lib.hid (HFL.out.trans (if_neg (by decide)))
      clear HFL
      go_wp2_with fail
      go_meet
      exact ⟨by rw [HX.out], rfl⟩
    · have HX : Hid (d = n.tdiv 86400000 - 1) := Lib.hid (HFL.out.trans (if_pos rfl))
      clear HFL
      go_wp2_with fail
      go_meet
      exact ⟨by rw [HX.out], rfl⟩
  case rest =>
  obtain ⟨rfl, rfl⟩ := hcut
  clear HFL t1 t2
  go_wp2_with fail
  refine (hda _).mono ?_
  rintro e' w1 ⟨rfl, hB⟩
  clear hda
  have hYL : (ymdS ((Y : Int), (M : Int), (D : Int))).length ≤ 100 := by
    have l1 := padS_len Y 4 (by omega)
    have l2 := padS_len M 2 (by omega)
    have l3 := padS_len D 2 (by omega)
    have : ymdS ((Y : Int), (M : Int), (D : Int)) = padS Y 4 ++ 45 :: (padS M 2 ++ 45 :: padS D 2) := rfl
    rw [this]
    simp only [List.length_append, List.length_cons]
    omega
  have HDO : Hid (-719162 ≤ d ∧ d ≤ 100000109 → dateOf d = ((Y : Int), (M : Int), (D : Int))) := Lib.hid (by
    intro g
    rcases HDE.out with ⟨_, _, _, h⟩ | ⟨h, _⟩
    · exact h
    · exact absurd g h)
  clear HDE
  have hB1 : Below w.heap.size w (w1.alloc (.cells #[.int .i64 Y, .int .i64 M, .int .i64 D] 149)) := hB.alloc hB.size _
  rcases hkk with rfl | rfl | rfl | rfl | rfl
  · clear hM hwk hwd y1 y2 t3 t4 HFM
    rcases HEE.out with ⟨g1, g2, rfl⟩ | ⟨g1, rfl⟩
    · by_cases hr0 : r = 0
      · have HN : Hid (v = (ymdS ((Y : Int), (M : Int), (D : Int)), 0)) := Lib.hid (by rw [HV.out, show1, ← HD.out, ← HR.out, if_pos ⟨g1, g2, hr0⟩, HDO.out ⟨g1, g2⟩])
        have t1 : (r == 0) = true := by simpa using hr0
        clear hr0
        generalize ymdS ((Y : Int), (M : Int), (D : Int)) = s at *
        go_wp2_with fail
        refine (hD _).mono ?_
        rintro e' w2 ⟨rfl, hB2⟩
        go_wp2_with fail
        go_ret2
        exact ⟨rret_si (by rw [HN.out]) (by rw [HN.out]), below_trans hB1 hB2⟩
      · have HN : Hid (v = ([], 2)) := Lib.hid (by rw [HV.out, show1, ← HD.out, ← HR.out, if_neg (fun g => hr0 g.2.2)])
        have t1 : (r == 0) = false := by simpa using hr0
        clear hr0
        go_wp2_with fail
        go_ret2
        exact ⟨rret_si (by rw [HN.out]) (by rw [HN.out]), hB1⟩
    · have HN : Hid (v = ([], 2)) := Lib.hid (by rw [HV.out, show1, ← HD.out, ← HR.out, if_neg (fun g => g1 ⟨g.1, g.2.1⟩)])
      go_wp2_with fail
      go_ret2
      exact ⟨rret_si (by rw [HN.out]) (by rw [HN.out]), hB1⟩
  · clear hD hwk hwd hYL HDO HEE
    have HN2 : Hid (v = if 1 ≤ y + 1970 ∧ y + 1970 ≤ 275760 then (padS (y + 1970).toNat 4 ++ 45 :: padS (m + 1).toNat 2, 0) else ([], 2)) := Lib.hid (by rw [HV.out, show2, ← HY.out, ← HM.out])
    go_wp2_with fail
    refine (hM _).mono ?_
    rintro e' w2 ⟨rfl, rfl⟩
    clear hM
    go_upto_region 15 with fail
    go_cut [59] (fun s59 wx => s59 = .bool (decide (n < 0) && decide (0 < m)) ∧ w1.alloc (.cells #[.int .i64 Y, .int .i64 M, .int .i64 D] 149) = wx)
    case first =>
      by_cases g1 : n < 0
      · by_cases g2 : 0 < m
        · go_wp2_with fail
          go_meet
          exact ⟨by simp [g1, g2], rfl⟩
        · go_wp2_with fail
          go_meet
          exact ⟨by simp [g1, g2], rfl⟩
      · go_wp2_with fail
        go_meet
        exact ⟨by simp; try omega, rfl⟩
    case rest =>
    obtain ⟨rfl, rfl⟩ := hcut
    generalize (decide (n < 0) && decide (0 < m)) = cc at *
    go_upto_if 59 with fail
    go_cut [11] (fun s11 wx => s11 = .int .i64 y ∧ w1.alloc (.cells #[.int .i64 Y, .int .i64 M, .int .i64 D] 149) = wx)
    case first =>
      cases cc
      · have HX : Hid (y = n.tdiv 12) := Lib.hid (HFM.out.trans (if_neg (by decide)))
        clear HFM
        go_wp2_with fail
        go_meet
        exact ⟨by rw [HX.out], rfl⟩
      · have HX : Hid (y = n.tdiv 12 - 1) := Lib.hid (HFM.out.trans (if_pos rfl))
        clear HFM
        go_wp2_with fail
        go_meet
        exact ⟨by rw [HX.out], rfl⟩
    case rest =>
    obtain ⟨rfl, rfl⟩ := hcut
    clear HFM t3 t4
    generalize w1.alloc (.cells #[.int .i64 Y, .int .i64 M, .int .i64 D] 149) = w2 at *
    by_cases g1 : -1969 ≤ y
    · by_cases g2 : y ≤ 273790
      · have HN : Hid (v = (padS (y + 1970).toNat 4 ++ 45 :: padS (m + 1).toNat 2, 0)) := Lib.hid (by rw [HN2.out, if_pos (by omega)])
        have p1 := fun w => rpad_any (y + 1970) (y + 1970).toNat (by omega) (by omega) 4 4 rfl (by decide) w
        have p2 := fun w => rpad_any (m + 1) (m + 1).toNat (by omega) (by omega) 2 2 rfl (by decide) w
        have l1 := padS_len (y + 1970).toNat 4 (by omega)
        have l2 := padS_len (m + 1).toNat 2 (by omega)
        generalize padS (y + 1970).toNat 4 = s1 at *
        generalize padS (m + 1).toNat 2 = s2 at *
        go_wp2_with fail
        refine (p1 _).mono ?_
        rintro e' w3 ⟨rfl, hB3⟩
        go_wp2_with fail
        refine (p2 _).mono ?_
        rintro e' w4 ⟨rfl, hB4⟩
        go_wp2_with fail
        go_ret2
        exact ⟨rret_si (by first | (rw [HN.out]; done) | (rw [HN.out]; simp)) (by rw [HN.out]), below_trans (below_trans hB1 hB3) hB4⟩
      · have HN : Hid (v = ([], 2)) := Lib.hid (by rw [HN2.out, if_neg (by omega)])
        go_wp2_with fail
        go_ret2
        exact ⟨rret_si (by rw [HN.out]) (by rw [HN.out]), hB1⟩
    · have HN : Hid (v = ([], 2)) := Lib.hid (by rw [HN2.out, if_neg (by omega)])
      go_wp2_with fail
      go_ret2
      exact ⟨rret_si (by rw [HN.out]) (by rw [HN.out]), hB1⟩
  · clear hD hM hYL HDO HEE HFM y1 y2 t3 t4
    have hwe : weekE d = if -719162 ≤ d ∧ d < 100000107 then ((yearW (dateOf d).1 d, (d - firstW (yearW (dateOf d).1 d)) / 7 + 1), 0) else ((0, 0), 2) := rfl
    have HN3 : Hid (v = if -719162 ≤ d ∧ d < 100000107 ∧ r = 0 ∧ wd d = 1 then (padS (yearW (dateOf d).1 d).toNat 4 ++ 45 :: 87 :: padS ((d - firstW (yearW (dateOf d).1 d)) / 7 + 1).toNat 2, 0) else ([], 2)) := Lib.hid (by rw [HV.out, show3, ← HD.out, ← HR.out])
    by_cases hd : -719162 ≤ d ∧ d < 100000107
    · rw [if_pos hd] at hwe
      obtain ⟨a1, a2, a3, a4⟩ := yearW_bounds d hd.1 hd.2
      rw [hwe] at hwk
      dsimp only at hwk
      have HN4 : Hid (v = if r = 0 ∧ wd d = 1 then (padS (yearW (dateOf d).1 d).toNat 4 ++ 45 :: 87 :: padS ((d - firstW (yearW (dateOf d).1 d)) / 7 + 1).toNat 2, 0) else ([], 2)) := Lib.hid (by
        rw [HN3.out]
        by_cases q : r = 0 ∧ wd d = 1
        · rw [if_pos ⟨hd.1, hd.2, q⟩, if_pos q]
        · rw [if_neg (fun k => q k.2.2), if_neg q])
      clear HN3 hwe
      generalize yearW (dateOf d).1 d = WY at *
      generalize (d - firstW WY) / 7 + 1 = WK at *
      generalize wd d = wdd at *
      go_wp2_with fail
      refine (hwk _).mono ?_
      rintro e' w2 ⟨rfl, hB2⟩
      clear hwk
      have hS : (w2.alloc (.cells #[.int .i64 WY, .int .i64 WK, .int .i64 0] 149)).cell? ⟨w2.heap.size, 0, none⟩ = some (.int .i64 WY) ∧ (w2.alloc (.cells #[.int .i64 WY, .int .i64 WK, .int .i64 0] 149)).cell? ⟨w2.heap.size, 1, none⟩ = some (.int .i64 WK) ∧ (w2.alloc (.cells #[.int .i64 WY, .int .i64 WK, .int .i64 0] 149)).cell? ⟨w2.heap.size, 2, none⟩ = some (.int .i64 0) ∧ Below w.heap.size w (w2.alloc (.cells #[.int .i64 WY, .int .i64 WK, .int .i64 0] 149)) := by
        have hB02 := below_trans hB1 hB2
        refine ⟨?_, ?_, ?_, hB02.alloc hB02.size _⟩ <;> (rw [World.cell?_alloc_new]; rfl)
      have HS := Lib.hid hS
      clear hS hB1 hB2 hB
      by_cases hr0 : r = 0
      · have t1 : (r == 0) = true := by simpa using hr0
        by_cases hw1 : wdd = 1
        · have t2 : (wdd == 1) = true := by simpa using hw1
          have HN : Hid (v = (padS WY.toNat 4 ++ 45 :: 87 :: padS WK.toNat 2, 0)) := Lib.hid (by rw [HN4.out, if_pos ⟨hr0, hw1⟩])
          clear hr0 hw1 HN4
          have p1 := fun w => rpad_any WY WY.toNat (by omega) (by omega) 4 4 rfl (by decide) w
          have p2 := fun w => rpad_any WK WK.toNat (by omega) (by omega) 2 2 rfl (by decide) w
          have l1 := padS_len WY.toNat 4 (by omega)
          have l2 := padS_len WK.toNat 2 (by omega)
          generalize padS WY.toNat 4 = s1 at *
          generalize padS WK.toNat 2 = s2 at *
          have e1 := fun w => str_add s1 [45, 87] (by simp; omega) w
          have e2 := fun w => str_add (s1 ++ [45, 87]) s2 (by simp; omega) w
          have e3 := fun w => str_add (s1 ++ 45 :: [87]) s2 (by simp; omega) w
          go_wp2_with fail
          refine (hwd _).mono ?_
          rintro e' w' ⟨rfl, rfl⟩
          clear hwd
          go_wp2_with fail
          have hS := HS.out
          clear HS
          generalize w2.alloc (.cells #[.int .i64 WY, .int .i64 WK, .int .i64 0] 149) = w3 at *
          go_region_held3 (fun w' => w'.cell? ⟨w2.heap.size, 0, none⟩ = some (.int .i64 WY) ∧ w'.cell? ⟨w2.heap.size, 1, none⟩ = some (.int .i64 WK) ∧ w'.cell? ⟨w2.heap.size, 2, none⟩ = some (.int .i64 0) ∧ Below w.heap.size w w')
            (first | assumption | exact held3_drew hS | (refine held3_below (by assumption) (by assumption)))
            (first | (go_at_call_of 166 (Value.int .i64 WY); refine (p1 _).mono ?_; rintro e w' ⟨rfl, hb⟩) | (go_at_call_of 166 (Value.int .i64 WK); refine (p2 _).mono ?_; rintro e w' ⟨rfl, hb⟩))
          all_goals
            go_wp2_with fail
            go_ret2
            exact ⟨rret_si (by first | (rw [HN.out]; done) | (rw [HN.out]; simp)) (by rw [HN.out]), held3_last (by assumption)⟩
        · have t2 : (wdd == 1) = false := by simpa using hw1
          have HN : Hid (v = ([], 2)) := Lib.hid (by rw [HN4.out, if_neg (fun k => hw1 k.2)])
          clear hr0 hw1 HN4
          go_wp2_with fail
          refine (hwd _).mono ?_
          rintro e' w' ⟨rfl, rfl⟩
          go_wp2_with fail
          go_ret2
          exact ⟨rret_si (by rw [HN.out]) (by rw [HN.out]), held3_last HS.out⟩
      · have t1 : (r == 0) = false := by simpa using hr0
        have HN : Hid (v = ([], 2)) := Lib.hid (by rw [HN4.out, if_neg (fun k => hr0 k.1)])
        clear hr0 HN4
        go_wp2_with fail
        go_ret2
        exact ⟨rret_si (by rw [HN.out]) (by rw [HN.out]), held3_last HS.out⟩
    · rw [if_neg hd] at hwe
      rw [hwe] at hwk
      dsimp only at hwk
      have HN : Hid (v = ([], 2)) := Lib.hid (by rw [HN3.out, if_neg (fun k => hd ⟨k.1, k.2.1⟩)])
      clear HN3 hwe hd
      go_wp2_with fail
      refine (hwk _).mono ?_
      rintro e' w2 ⟨rfl, hB2⟩
      have hB02 := below_trans hB1 hB2
      clear hwk
      go_wp2_with fail
      go_ret2
      exact ⟨rret_si (by rw [HN.out]) (by rw [HN.out]), hB02.alloc hB02.size _⟩
  · clear hD hM hwk hwd hYL HDO HEE HFM y1 y2 t3 t4
    by_cases g1 : 0 ≤ n
    · by_cases g2 : n < 86400000
      · have HN : Hid (v = (clockS n.toNat, 0)) := Lib.hid (by rw [HV.out, show4, if_pos ⟨g1, g2⟩])
        have hc := fun w => rclock_show n n.toNat (by omega) (by omega) w
        generalize clockS n.toNat = s at *
        go_wp2_with fail
        refine (hc _).mono ?_
        rintro e' w2 ⟨rfl, hB2⟩
        go_wp2_with fail
        go_ret2
        exact ⟨rret_si (by rw [HN.out]) (by rw [HN.out]), below_trans hB1 hB2⟩
      · have HN : Hid (v = ([], 2)) := Lib.hid (by rw [HV.out, show4, if_neg (fun g => g2 g.2)])
        go_wp2_with fail
        go_ret2
        exact ⟨rret_si (by rw [HN.out]) (by rw [HN.out]), hB1⟩
    · have HN : Hid (v = ([], 2)) := Lib.hid (by rw [HV.out, show4, if_neg (fun g => g1 g.1)])
      go_wp2_with fail
      go_ret2
      exact ⟨rret_si (by rw [HN.out]) (by rw [HN.out]), hB1⟩
  · clear hM hwk hwd HFM y1 y2 t3 t4
    rcases HEE.out with ⟨g1, g2, rfl⟩ | ⟨g1, rfl⟩
    · have HN : Hid (v = (ymdS ((Y : Int), (M : Int), (D : Int)) ++ 84 :: clockS r.toNat, 0)) := Lib.hid (by rw [HV.out, show5, ← HD.out, ← HR.out, if_pos ⟨g1, g2⟩, HDO.out ⟨g1, g2⟩])
      have hc := fun w => rclock_show r r.toNat (by omega) (by omega) w
      have lc := clockS_len r.toNat (by omega)
      generalize clockS r.toNat = s2 at *
      generalize ymdS ((Y : Int), (M : Int), (D : Int)) = s at *
      go_wp2_with fail
      refine (hD _).mono ?_
      rintro e' w2 ⟨rfl, hB2⟩
      go_wp2_with fail
      refine (hc _).mono ?_
      rintro e' w3 ⟨rfl, hB3⟩
      go_wp2_with fail
      go_ret2
      exact ⟨rret_si (by first | (rw [HN.out]; done) | (rw [HN.out]; simp)) (by rw [HN.out]), below_trans (below_trans hB1 hB2) hB3⟩
    · have HN : Hid (v = ([], 2)) := Lib.hid (by rw [HV.out, show5, ← HD.out, ← HR.out, if_neg g1])
      go_wp2_with fail
      go_ret2
      exact ⟨rret_si (by rw [HN.out]) (by rw [HN.out]), hB1⟩
end Go.Proofs.YtbhdoocajfkfiaaGreatDoor.mom
