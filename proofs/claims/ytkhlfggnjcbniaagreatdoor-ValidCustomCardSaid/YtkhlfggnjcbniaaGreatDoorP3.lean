/- A part of the proofs: lemmas and contracts. -/
import Derived.Deep.DeepCutAuto
import Derived.Test.YtkhlfggnjcbniaaGreatDoorP1
set_option maxHeartbeats 12800000
set_option maxRecDepth 1000000
namespace Go.Proofs.YtkhlfggnjcbniaaGreatDoor.days
open Go.ChangeShapes Go.WideShapes Go.ChangeAt Go.RowKit Go.Lib cal

theorem ret_bool {a b : Bool} (h : a = b) : Ending.returned (.bool a) = .returned (.bool b) := by rw [h]
theorem ret_int {k : IntKind} {a b : Int} (h : a = b) : Ending.returned (.int k a) = .returned (.int k b) := by rw [h]
theorem ret_ii {a b c d : Int} (h : a = b) (g : c = d) : Ending.returned (.tuple #[.int .i64 a, .int .i64 c]) = .returned (.tuple #[.int .i64 b, .int .i64 d]) := by rw [h, g]

def int64 (n : Int) : Prop := -9223372036854775808 ≤ n ∧ n ≤ 9223372036854775807
theorem leap_any (y : Int) (h1 : 1 ≤ y) (h2 : y ≤ 275760) (w : World) :
  Calls Tryz.prog 352 #[.int .i64 y] w fun e w' => e = .returned (.bool (decide (leapP y))) ∧ w = w' := by
 obtain ⟨v, hv⟩ : ∃ v, v = decide (leapP y) := ⟨_, rfl⟩
 rw [← hv]
 by_cases g4 : y % 4 = 0
 ·by_cases g100 : y % 100 = 0
  ·have t4 : (y % 4 == 0) = true := by simpa using g4
   have t100 : (y % 100 != 0) = false := by simpa using g100
   have HV : Hid (v = (y % 400 == 0)) := Lib.hid (by
    rw [hv]
    by_cases g : y % 400 = 0
    ·rw [decide_eq_true (show leapP y from Or.inl g)]; simp [g]
    ·rw [decide_eq_false (show ¬ leapP y from fun h => h.elim g (fun k => k.2 g100))]; simp [g])
   clear hv g4 g100
   go_enter Tryz.func352, Tryz.ntmps352
   go_wp2_with fail
   go_ret
   exact ⟨ret_bool HV.out.symm, rfl⟩
  ·have t4 : (y % 4 == 0) = true := by simpa using g4
   have t100 : (y % 100 != 0) = true := by simpa using g100
   have HV : Hid (v = true) := Lib.hid (by rw [hv]; exact decide_eq_true (show leapP y from Or.inr ⟨g4, g100⟩))
   clear hv g4 g100
   go_enter Tryz.func352, Tryz.ntmps352
   go_wp2_with fail
   go_ret
   exact ⟨ret_bool HV.out.symm, rfl⟩
 ·have t4 : (y % 4 == 0) = false := by simpa using g4
  have HV : Hid (v = false) := Lib.hid (by rw [hv]; exact decide_eq_false (show ¬ leapP y from fun h => by unfold leapP at h; omega))
  clear hv g4
  go_enter Tryz.func352, Tryz.ntmps352
  go_wp2_with fail
  go_ret
  exact ⟨ret_bool HV.out.symm, rfl⟩

theorem ix0 (w : World) : (Instr.index 271 (Value.agg #[.int .i64 31, .int .i64 28, .int .i64 31, .int .i64 30, .int .i64 31, .int .i64 30, .int .i64 31, .int .i64 31, .int .i64 30, .int .i64 31, .int .i64 30, .int .i64 31]) (.int .i64 0)).run Tryz.prog w = .ok (.int .i64 31) w := by kernel_rfl
theorem ix1 (w : World) : (Instr.index 271 (Value.agg #[.int .i64 31, .int .i64 28, .int .i64 31, .int .i64 30, .int .i64 31, .int .i64 30, .int .i64 31, .int .i64 31, .int .i64 30, .int .i64 31, .int .i64 30, .int .i64 31]) (.int .i64 1)).run Tryz.prog w = .ok (.int .i64 28) w := by kernel_rfl
theorem ix2 (w : World) : (Instr.index 271 (Value.agg #[.int .i64 31, .int .i64 28, .int .i64 31, .int .i64 30, .int .i64 31, .int .i64 30, .int .i64 31, .int .i64 31, .int .i64 30, .int .i64 31, .int .i64 30, .int .i64 31]) (.int .i64 2)).run Tryz.prog w = .ok (.int .i64 31) w := by kernel_rfl
theorem ix3 (w : World) : (Instr.index 271 (Value.agg #[.int .i64 31, .int .i64 28, .int .i64 31, .int .i64 30, .int .i64 31, .int .i64 30, .int .i64 31, .int .i64 31, .int .i64 30, .int .i64 31, .int .i64 30, .int .i64 31]) (.int .i64 3)).run Tryz.prog w = .ok (.int .i64 30) w := by kernel_rfl
theorem ix4 (w : World) : (Instr.index 271 (Value.agg #[.int .i64 31, .int .i64 28, .int .i64 31, .int .i64 30, .int .i64 31, .int .i64 30, .int .i64 31, .int .i64 31, .int .i64 30, .int .i64 31, .int .i64 30, .int .i64 31]) (.int .i64 4)).run Tryz.prog w = .ok (.int .i64 31) w := by kernel_rfl
theorem ix5 (w : World) : (Instr.index 271 (Value.agg #[.int .i64 31, .int .i64 28, .int .i64 31, .int .i64 30, .int .i64 31, .int .i64 30, .int .i64 31, .int .i64 31, .int .i64 30, .int .i64 31, .int .i64 30, .int .i64 31]) (.int .i64 5)).run Tryz.prog w = .ok (.int .i64 30) w := by kernel_rfl
theorem ix6 (w : World) : (Instr.index 271 (Value.agg #[.int .i64 31, .int .i64 28, .int .i64 31, .int .i64 30, .int .i64 31, .int .i64 30, .int .i64 31, .int .i64 31, .int .i64 30, .int .i64 31, .int .i64 30, .int .i64 31]) (.int .i64 6)).run Tryz.prog w = .ok (.int .i64 31) w := by kernel_rfl
theorem ix7 (w : World) : (Instr.index 271 (Value.agg #[.int .i64 31, .int .i64 28, .int .i64 31, .int .i64 30, .int .i64 31, .int .i64 30, .int .i64 31, .int .i64 31, .int .i64 30, .int .i64 31, .int .i64 30, .int .i64 31]) (.int .i64 7)).run Tryz.prog w = .ok (.int .i64 31) w := by kernel_rfl
theorem ix8 (w : World) : (Instr.index 271 (Value.agg #[.int .i64 31, .int .i64 28, .int .i64 31, .int .i64 30, .int .i64 31, .int .i64 30, .int .i64 31, .int .i64 31, .int .i64 30, .int .i64 31, .int .i64 30, .int .i64 31]) (.int .i64 8)).run Tryz.prog w = .ok (.int .i64 30) w := by kernel_rfl
theorem ix9 (w : World) : (Instr.index 271 (Value.agg #[.int .i64 31, .int .i64 28, .int .i64 31, .int .i64 30, .int .i64 31, .int .i64 30, .int .i64 31, .int .i64 31, .int .i64 30, .int .i64 31, .int .i64 30, .int .i64 31]) (.int .i64 9)).run Tryz.prog w = .ok (.int .i64 31) w := by kernel_rfl
theorem ix10 (w : World) : (Instr.index 271 (Value.agg #[.int .i64 31, .int .i64 28, .int .i64 31, .int .i64 30, .int .i64 31, .int .i64 30, .int .i64 31, .int .i64 31, .int .i64 30, .int .i64 31, .int .i64 30, .int .i64 31]) (.int .i64 10)).run Tryz.prog w = .ok (.int .i64 30) w := by kernel_rfl
theorem ix11 (w : World) : (Instr.index 271 (Value.agg #[.int .i64 31, .int .i64 28, .int .i64 31, .int .i64 30, .int .i64 31, .int .i64 30, .int .i64 31, .int .i64 31, .int .i64 30, .int .i64 31, .int .i64 30, .int .i64 31]) (.int .i64 11)).run Tryz.prog w = .ok (.int .i64 31) w := by kernel_rfl
def lenD (y m : Int) : Int := if 1 ≤ y ∧ y ≤ 275760 ∧ 1 ≤ m ∧ m ≤ 12 then mlen y m else 0

theorem length_any (y m : Int) (hy : int64 y) (hm : int64 m) (w : World) :
  Calls Tryz.prog 334 #[.int .i64 y, .int .i64 m] w fun e w' => e = .returned (.int .i64 (lenD y m)) ∧ w = w' := by
 obtain ⟨v, hv⟩ : ∃ v, v = lenD y m := ⟨_, rfl⟩
 rw [← hv]
 unfold lenD at hv
 obtain ⟨y1, y2⟩ := hy
 obtain ⟨m1, m2⟩ := hm
 by_cases a1 : y < 1
 ·have HV : Hid (v = 0) := Lib.hid (by rw [hv, if_neg (by omega)])
  clear hv
  go_enter Tryz.func334, Tryz.ntmps334
  go_wp2_with fail
  go_ret
  exact ⟨ret_int HV.out.symm, rfl⟩
 by_cases a2 : 275760 < y
 ·have HV : Hid (v = 0) := Lib.hid (by rw [hv, if_neg (by omega)])
  clear hv
  go_enter Tryz.func334, Tryz.ntmps334
  go_wp2_with fail
  go_ret
  exact ⟨ret_int HV.out.symm, rfl⟩
 by_cases a3 : m < 1
 ·have HV : Hid (v = 0) := Lib.hid (by rw [hv, if_neg (by omega)])
  clear hv
  go_enter Tryz.func334, Tryz.ntmps334
  go_wp2_with fail
  go_ret
  exact ⟨ret_int HV.out.symm, rfl⟩
 by_cases a4 : 12 < m
 ·have HV : Hid (v = 0) := Lib.hid (by rw [hv, if_neg (by omega)])
  clear hv
  go_enter Tryz.func334, Tryz.ntmps334
  go_wp2_with fail
  go_ret
  exact ⟨ret_int HV.out.symm, rfl⟩
 rw [if_pos (by omega)] at hv
 have hl := leap_any y (by omega) (by omega) w
 by_cases h2 : m = 2
 ·subst h2
  by_cases hp : leapP y
  ·rw [decide_eq_true hp] at hl
   have HV : Hid (v = 29) := Lib.hid (by rw [hv]; simp [mlen, hp])
   clear hv hp
   go_enter Tryz.func334, Tryz.ntmps334
   go_wp2_with fail
   refine hl.mono ?_
   rintro e w' ⟨rfl, rfl⟩
   go_wp2_with fail
   go_ret
   exact ⟨ret_int HV.out.symm, rfl⟩
  ·rw [decide_eq_false hp] at hl
   have i1 := ix1
   have HV : Hid (v = 28) := Lib.hid (by rw [hv]; simp [mlen, hp])
   clear hv hp
   go_enter Tryz.func334, Tryz.ntmps334
   go_wp2_with fail
   refine hl.mono ?_
   rintro e w' ⟨rfl, rfl⟩
   go_wp2_with fail
   go_ret
   exact ⟨ret_int HV.out.symm, rfl⟩
 ·have i0 := ix0
  have i1 := ix1
  have i2 := ix2
  have i3 := ix3
  have i4 := ix4
  have i5 := ix5
  have i6 := ix6
  have i7 := ix7
  have i8 := ix8
  have i9 := ix9
  have i10 := ix10
  have i11 := ix11
  have hmm : m = 1 ∨ m = 3 ∨ m = 4 ∨ m = 5 ∨ m = 6 ∨ m = 7 ∨ m = 8 ∨ m = 9 ∨ m = 10 ∨ m = 11 ∨ m = 12 := by omega
  clear hl h2 a3 a4 m1 m2
  rcases hmm with rfl | rfl | rfl | rfl | rfl | rfl | rfl | rfl | rfl | rfl | rfl
  all_goals
   simp [mlen] at hv
   have HV := Lib.hid hv
   clear hv
   go_enter Tryz.func334, Tryz.ntmps334
   go_wp2_with fail
   go_ret
   exact ⟨ret_int HV.out.symm, rfl⟩

theorem civil_any (y m d : Int) (hy1 : 1 ≤ y) (hy2 : y ≤ 300000) (hm1 : 1 ≤ m) (hm2 : m ≤ 12) (hd1 : 1 ≤ d) (hd2 : d ≤ 31) (w : World) :
  Calls Tryz.prog 335 #[.int .i64 y, .int .i64 m, .int .i64 d] w fun e w' => e = .returned (.int .i64 (numD y m d)) ∧ w = w' := by
 obtain ⟨v, hv⟩ : ∃ v, v = numD y m d := ⟨_, rfl⟩
 rw [← hv]
 rw [← civ_num y m d hm1 hm2] at hv
 unfold civ at hv
 by_cases h3 : m < 3
 ·rw [if_pos h3, if_pos h3] at hv
  dsimp only at hv
  have HV := Lib.hid hv
  clear hv
  go_enter Tryz.func335, Tryz.ntmps335
  go_wp2_with fail
  go_ret
  exact ⟨ret_int HV.out.symm, rfl⟩
 ·rw [if_neg h3, if_neg h3] at hv
  dsimp only at hv
  have HV := Lib.hid hv
  clear hv
  go_enter Tryz.func335, Tryz.ntmps335
  go_wp2_with fail
  go_ret
  exact ⟨ret_int HV.out.symm, rfl⟩

def numE (y m d : Int) : Int × Int := if 1 ≤ y ∧ y ≤ 275760 ∧ 1 ≤ m ∧ m ≤ 12 ∧ 1 ≤ d ∧ d ≤ mlen y m then (numD y m d, 0) else (0, 2)

theorem number_any (y m d : Int) (hy : int64 y) (hm : int64 m) (hd : int64 d) (w : World) :
  Calls Tryz.prog 307 #[.int .i64 y, .int .i64 m, .int .i64 d] w fun e w' => e = .returned (.tuple #[.int .i64 (numE y m d).1, .int .i64 (numE y m d).2]) ∧ w = w' := by
 obtain ⟨v, hv⟩ : ∃ v, v = numE y m d := ⟨_, rfl⟩
 rw [← hv]
 unfold numE at hv
 have hl := length_any y m hy hm w
 obtain ⟨d1, d2⟩ := hd
 by_cases h1 : d < 1
 ·have HV : Hid (v = (0, 2)) := Lib.hid (by rw [hv, if_neg (by omega)])
  clear hv hl
  go_enter Tryz.func307, Tryz.ntmps307
  go_wp2_with fail
  go_ret2
  exact ⟨ret_ii (by rw [HV.out]) (by rw [HV.out]), rfl⟩
 ·by_cases h2 : lenD y m < d
  ·have HV : Hid (v = (0, 2)) := Lib.hid (by
    rw [hv, if_neg]
    intro g
    unfold lenD at h2
    rw [if_pos ⟨g.1, g.2.1, g.2.2.1, g.2.2.2.1⟩] at h2
    omega)
   clear hv
   generalize lenD y m = k at *
   go_enter Tryz.func307, Tryz.ntmps307
   go_wp2_with fail
   refine hl.mono ?_
   rintro e w' ⟨rfl, rfl⟩
   go_wp2_with fail
   go_ret2
   exact ⟨ret_ii (by rw [HV.out]) (by rw [HV.out]), rfl⟩
  ·have hok : 1 ≤ y ∧ y ≤ 275760 ∧ 1 ≤ m ∧ m ≤ 12 ∧ d ≤ mlen y m := by
    unfold lenD at h2
    split at h2
    ·rename_i g; exact ⟨g.1, g.2.1, g.2.2.1, g.2.2.2, by omega⟩
    ·omega
   obtain ⟨a1, a2, a3, a4, a5⟩ := hok
   have hml := mlen_pos y m
   rw [if_pos ⟨a1, a2, a3, a4, by omega, a5⟩] at hv
   have hc := civil_any y m d a1 (by omega) a3 a4 (by omega) (by omega) w
   generalize lenD y m = k at *
   have HV := Lib.hid hv
   clear hv a5 hml
   go_enter Tryz.func307, Tryz.ntmps307
   go_wp2_with fail
   refine hl.mono ?_
   rintro e w' ⟨rfl, rfl⟩
   go_wp2_with fail
   refine hc.mono ?_
   rintro e w' ⟨rfl, rfl⟩
   go_wp2_with fail
   go_ret2
   exact ⟨ret_ii (by rw [HV.out]) (by rw [HV.out]), rfl⟩

theorem tm7 (n : Int) : (0 ≤ n.tmod 7 ∧ n % 7 = n.tmod 7) ∨ (n.tmod 7 < 0 ∧ n % 7 = n.tmod 7 + 7 ∧ 0 < n % 7) := by
 have h0 := Int.tmod_eq_emod (a := n) (b := 7)
 have h3 : (((7 : Int).natAbs : Nat) : Int) = 7 := by decide
 have h1 := Int.emod_nonneg n (show (7 : Int) ≠ 0 by decide)
 have h2 := Int.emod_lt_of_pos n (show (0 : Int) < 7 by decide)
 split at h0
 ·left
  refine ⟨by omega, by omega⟩
 ·right
  rename_i hh
  refine ⟨by omega, by omega, by omega⟩
theorem tmod7 (n : Int) : -6 ≤ n.tmod 7 ∧ n.tmod 7 ≤ 6 := by
 have h1 := Int.emod_nonneg n (show (7 : Int) ≠ 0 by decide)
 have h2 := Int.emod_lt_of_pos n (show (0 : Int) < 7 by decide)
 rcases tm7 n with ⟨a, b⟩ | ⟨a, b, _⟩ <;> constructor <;> omega
theorem wd_of (n : Int) : ((n.tmod 7 + 3).tmod 7 < 0 ∧ wd n = (n.tmod 7 + 3).tmod 7 + 7 + 1) ∨ (0 ≤ (n.tmod 7 + 3).tmod 7 ∧ wd n = (n.tmod 7 + 3).tmod 7 + 1) := by
 unfold wd
 rcases tm7 n with ⟨a, b⟩ | ⟨a, b, _⟩ <;> rcases tm7 (n.tmod 7 + 3) with ⟨c, d⟩ | ⟨c, d, _⟩ <;> omega

theorem weekday_any (n : Int) (h : int64 n) (w : World) :
  Calls Tryz.prog 353 #[.int .i64 n] w fun e w' => e = .returned (.int .i64 (wd n)) ∧ w = w' := by
 have h1 := wd_of n
 have h2 := tmod7 n
 have h3 := tmod7 (n.tmod 7 + 3)
 obtain ⟨n1, n2⟩ := h
 rcases h1 with ⟨g1, g2⟩ | ⟨g1, g2⟩
 ·have G := Lib.hid g2
  clear g2
  go_enter Tryz.func353, Tryz.ntmps353
  go_wp2_with fail
  go_ret
  exact ⟨ret_int (by rw [G.out]), rfl⟩
 ·have G := Lib.hid g2
  clear g2
  go_enter Tryz.func353, Tryz.ntmps353
  go_wp2_with fail
  go_ret
  exact ⟨ret_int (by rw [G.out]), rfl⟩

theorem newY_bound (y : Int) (h1 : 1 ≤ y) (h2 : y ≤ 300000) : -719162 ≤ newY y ∧ newY y ≤ 120000000 := by unfold newY; omega
theorem num14 (y : Int) : numD y 1 4 = newY y + 3 := by unfold numD cum; simp

theorem first_any (y : Int) (h1 : 1 ≤ y) (h2 : y ≤ 300000) (w : World) :
  Calls Tryz.prog 337 #[.int .i64 y] w fun e w' => e = .returned (.int .i64 (firstW y)) ∧ w = w' := by
 have hc := civil_any y 1 4 h1 h2 (by decide) (by decide) (by decide) (by decide) w
 rw [num14] at hc
 obtain ⟨b1, b2⟩ := newY_bound y h1 h2
 have hw := fun w => weekday_any (newY y + 3) (by unfold int64; omega) w
 have hwb : 1 ≤ wd (newY y + 3) ∧ wd (newY y + 3) ≤ 7 := by unfold wd; omega
 have HV : Hid (firstW y = newY y + 3 - wd (newY y + 3) + 1) := Lib.hid rfl
 have k1 : -719162 ≤ newY y + 3 := by omega
 have k2 : newY y + 3 ≤ 120000010 := by omega
 generalize newY y + 3 = k at *
 generalize wd k = j at *
 obtain ⟨j1, j2⟩ := hwb
 go_enter Tryz.func337, Tryz.ntmps337
 go_wp2_with fail
 refine hc.mono ?_
 rintro e w' ⟨rfl, rfl⟩
 go_wp2_with fail
 refine (hw w).mono ?_
 rintro e w' ⟨rfl, rfl⟩
 go_wp2_with fail
 go_ret
 exact ⟨ret_int HV.out.symm, rfl⟩

def wksD (y : Int) : Int := if 1 ≤ y ∧ y ≤ 275760 then weeksW y else 0
theorem weeks_any (y : Int) (hy : int64 y) (w : World) :
  Calls Tryz.prog 336 #[.int .i64 y] w fun e w' => e = .returned (.int .i64 (wksD y)) ∧ w = w' := by
 obtain ⟨v, hv⟩ : ∃ v, v = wksD y := ⟨_, rfl⟩
 rw [← hv]
 unfold wksD at hv
 obtain ⟨y1, y2⟩ := hy
 by_cases a1 : y < 1
 ·have HV : Hid (v = 0) := Lib.hid (by rw [hv, if_neg (by omega)])
  clear hv
  go_enter Tryz.func336, Tryz.ntmps336
  go_wp2_with fail
  go_ret
  exact ⟨ret_int HV.out.symm, rfl⟩
 by_cases a2 : 275760 < y
 ·have HV : Hid (v = 0) := Lib.hid (by rw [hv, if_neg (by omega)])
  clear hv
  go_enter Tryz.func336, Tryz.ntmps336
  go_wp2_with fail
  go_ret
  exact ⟨ret_int HV.out.symm, rfl⟩
 rw [if_pos (by omega)] at hv
 have f1 := first_any (y + 1) (by omega) (by omega) w
 have f2 := first_any y (by omega) (by omega) w
 have n1 := firstW_near y
 have n2 := firstW_near (y + 1)
 obtain ⟨b1, b2⟩ := newY_bound y (by omega) (by omega)
 obtain ⟨b3, b4⟩ := newY_bound (y + 1) (by omega) (by omega)
 have hlt := firstW_lt y
 unfold weeksW at hv
 have c1 : -800000 ≤ firstW y ∧ firstW y ≤ 200000000 := by omega
 have c2 : -800000 ≤ firstW (y + 1) ∧ firstW (y + 1) ≤ 200000000 := by omega
 clear n1 n2 b1 b2 b3 b4
 generalize firstW y = p at *
 generalize firstW (y + 1) = q at *
 have HV := Lib.hid hv
 clear hv
 obtain ⟨c1, c1'⟩ := c1
 obtain ⟨c2, c2'⟩ := c2
 have hpos : 0 ≤ q - p := by omega
 go_enter Tryz.func336, Tryz.ntmps336
 go_wp2_with fail
 refine f1.mono ?_
 rintro e w' ⟨rfl, rfl⟩
 go_wp2_with fail
 refine f2.mono ?_
 rintro e w' ⟨rfl, rfl⟩
 go_wp2_with fail
 go_ret
 exact ⟨ret_int HV.out.symm, rfl⟩

def monE (y k : Int) : Int × Int := if 1 ≤ y ∧ y ≤ 275760 ∧ 1 ≤ k ∧ k ≤ weeksW y then (firstW y + 7 * (k - 1), 0) else (0, 2)
theorem monday_any (y k : Int) (hy : int64 y) (hk : int64 k) (w : World) :
  Calls Tryz.prog 309 #[.int .i64 y, .int .i64 k] w fun e w' => e = .returned (.tuple #[.int .i64 (monE y k).1, .int .i64 (monE y k).2]) ∧ w = w' := by
 obtain ⟨v, hv⟩ : ∃ v, v = monE y k := ⟨_, rfl⟩
 rw [← hv]
 unfold monE at hv
 have hl := weeks_any y hy w
 obtain ⟨d1, d2⟩ := hk
 by_cases h1 : k < 1
 ·have HV : Hid (v = (0, 2)) := Lib.hid (by rw [hv, if_neg (by omega)])
  clear hv hl
  go_enter Tryz.func309, Tryz.ntmps309
  go_wp2_with fail
  go_ret2
  exact ⟨ret_ii (by rw [HV.out]) (by rw [HV.out]), rfl⟩
 ·by_cases h2 : wksD y < k
  ·have HV : Hid (v = (0, 2)) := Lib.hid (by
    rw [hv, if_neg]
    intro g
    unfold wksD at h2
    rw [if_pos ⟨g.1, g.2.1⟩] at h2
    omega)
   clear hv
   generalize wksD y = j at *
   go_enter Tryz.func309, Tryz.ntmps309
   go_wp2_with fail
   refine hl.mono ?_
   rintro e w' ⟨rfl, rfl⟩
   go_wp2_with fail
   go_ret2
   exact ⟨ret_ii (by rw [HV.out]) (by rw [HV.out]), rfl⟩
  ·have hok : 1 ≤ y ∧ y ≤ 275760 ∧ k ≤ weeksW y := by
    unfold wksD at h2
    split at h2
    ·rename_i g; exact ⟨g.1, g.2, by omega⟩
    ·omega
   obtain ⟨a1, a2, a5⟩ := hok
   have hml := weeksW_pos y
   rw [if_pos ⟨a1, a2, by omega, a5⟩] at hv
   have hc := first_any y a1 (by omega) w
   have n1 := firstW_near y
   obtain ⟨b1, b2⟩ := newY_bound y (by omega) (by omega)
   have c1 : -800000 ≤ firstW y := by omega
   have c1' : firstW y ≤ 200000000 := by omega
   have k54 : k ≤ 54 := by omega
   generalize wksD y = j at *
   generalize firstW y = p at *
   have HV := Lib.hid hv
   clear hv a5 hml n1 b1 b2
   go_enter Tryz.func309, Tryz.ntmps309
   go_wp2_with fail
   refine hl.mono ?_
   rintro e w' ⟨rfl, rfl⟩
   go_wp2_with fail
   refine hc.mono ?_
   rintro e w' ⟨rfl, rfl⟩
   go_wp2_with fail
   go_ret2
   exact ⟨ret_ii (by rw [HV.out]) (by rw [HV.out]), rfl⟩
end Go.Proofs.YtkhlfggnjcbniaaGreatDoor.days
