/- A part of the proofs: lemmas and contracts. -/
import Derived.Shelf.Strings.OnBuilder
import Derived.Test.YtkhlfggnjcbniaaGreatDoorProg
import Derived.Test.YtkhlfggnjcbniaaGreatDoorP20
set_option maxHeartbeats 12800000
set_option maxRecDepth 1000000
namespace Go.Proofs.YtkhlfggnjcbniaaGreatDoor.ctl
open Go.Lib num mom atr link stp cln

def modeP (kind : Int) : Int :=
 if (2 ≤ kind ∧ kind ≤ 15) ∨ kind = 24 ∨ kind = 28 then 1
 else if kind = 16 ∨ kind = 17 then 3
 else if kind = 18 then 4
 else if 1 ≤ kind ∧ kind ≤ 22 then 2 else 0
theorem kinds_c (kind : Int) : kind = 24 ∨ kind = 28 ∨ (2 ≤ kind ∧ kind ≤ 15) ∨ (kind = 16 ∨ kind = 17) ∨ kind = 18 ∨ (kind = 1 ∨ kind = 19 ∨ kind = 20 ∨ kind = 21 ∨ kind = 22) ∨ (kind = 25 ∨ kind = 26 ∨ kind = 27) ∨ kind = 32 ∨ (¬ (1 ≤ kind ∧ kind ≤ 22) ∧ kind ≠ 24 ∧ kind ≠ 25 ∧ kind ≠ 26 ∧ kind ≠ 27 ∧ kind ≠ 28 ∧ kind ≠ 32) := by omega
theorem mode_1 (kind : Int) (h : (2 ≤ kind ∧ kind ≤ 15) ∨ kind = 24 ∨ kind = 28) : modeP kind = 1 := by unfold modeP; rw [if_pos h]
theorem mode_3 (kind : Int) (h : kind = 16 ∨ kind = 17) : modeP kind = 3 := by unfold modeP; rw [if_neg (by omega), if_pos h]
theorem mode_4 : modeP 18 = 4 := by decide
theorem mode_2 (kind : Int) (h : kind = 1 ∨ kind = 19 ∨ kind = 20 ∨ kind = 21 ∨ kind = 22) : modeP kind = 2 := by unfold modeP; rw [if_neg (by omega), if_neg (by omega), if_neg (by omega), if_pos (by omega)]
theorem mode_0 (kind : Int) (h : ¬ (1 ≤ kind ∧ kind ≤ 22) ∧ kind ≠ 24 ∧ kind ≠ 28) : modeP kind = 0 := by unfold modeP; rw [if_neg (by omega), if_neg (by omega), if_neg (by omega), if_neg (by omega)]

def onT : List UInt8 := [111, 110]
def fakeT : List UInt8 := [67, 58, 92, 102, 97, 107, 101, 112, 97, 116, 104, 92]
def valueP (kind : Int) (v : List UInt8) (fs : List Ent) (l : List Attr) : List UInt8 :=
 if modeP kind = 1 then v
 else if modeP kind = 3 then (if attrB nValue l then attrS nValue l else onT)
 else if modeP kind = 2 ∨ kind = 25 ∨ kind = 26 ∨ kind = 27 then attrS nValue l
 else if modeP kind = 4 then (match fs with | [] => [] | f :: _ => fakeT ++ f.fname)
 else []
end Go.Proofs.YtkhlfggnjcbniaaGreatDoor.ctl
namespace Go.Proofs.YtkhlfggnjcbniaaGreatDoor.ctl
open Go.ChangeShapes Go.WideShapes Go.ChangeAt Go.RowKit Go.Lib num

theorem mode_any (kind : Int) (w : World) :
  Calls Tryz.prog 144 #[.int .i64 kind] w fun e w' => e = .returned (.int .i64 (modeP kind)) ∧ w = w' := by
 rcases kinds_c kind with rfl | rfl | h | h | rfl | h | h | rfl | h
 ·rw [mode_1 24 (by decide)]
  go_enter Tryz.func144, Tryz.ntmps144
  go_wp2_with (first | go_in)
  go_ret
  exact ⟨rfl, rfl⟩
 ·rw [mode_1 28 (by decide)]
  go_enter Tryz.func144, Tryz.ntmps144
  go_wp2_with (first | go_in)
  go_ret
  exact ⟨rfl, rfl⟩
 ·rw [mode_1 kind (Or.inl h)]
  obtain ⟨h1, h2⟩ := h
  go_enter Tryz.func144, Tryz.ntmps144
  go_wp2_with (first | go_in)
  go_ret
  exact ⟨rfl, rfl⟩
 ·rw [mode_3 kind h]
  rcases h with rfl | rfl
  all_goals
   go_enter Tryz.func144, Tryz.ntmps144
   go_wp2_with (first | go_in)
   go_ret
   exact ⟨rfl, rfl⟩
 ·rw [mode_4]
  go_enter Tryz.func144, Tryz.ntmps144
  go_wp2_with (first | go_in)
  go_ret
  exact ⟨rfl, rfl⟩
 ·rw [mode_2 kind h]
  rcases h with rfl | rfl | rfl | rfl | rfl
  all_goals
   go_enter Tryz.func144, Tryz.ntmps144
   go_wp2_with (first | go_in)
   go_ret
   exact ⟨rfl, rfl⟩
 ·rw [mode_0 kind (by omega)]
  rcases h with rfl | rfl | rfl
  all_goals
   go_enter Tryz.func144, Tryz.ntmps144
   go_wp2_with (first | go_in)
   go_ret
   exact ⟨rfl, rfl⟩
 ·rw [mode_0 32 (by decide)]
  go_enter Tryz.func144, Tryz.ntmps144
  go_wp2_with (first | go_in)
  go_ret
  exact ⟨rfl, rfl⟩
 ·rw [mode_0 kind (by omega)]
  have t24 : (kind == 24) = false := by simp; omega
  have t28 : (kind == 28) = false := by simp; omega
  have t16 : (kind == 16) = false := by simp; omega
  have t17 : (kind == 17) = false := by simp; omega
  have t18 : (kind == 18) = false := by simp; omega
  rcases Int.lt_or_le kind 1 with g | g
  ·clear h
   have g2 : kind < 2 := by omega
   go_enter Tryz.func144, Tryz.ntmps144
   go_wp2_with (first | go_in)
   go_ret
   exact ⟨rfl, rfl⟩
  ·have g2 : 22 < kind := by omega
   have g3 : 15 < kind := by omega
   have g4 : 2 ≤ kind := by omega
   clear h
   go_enter Tryz.func144, Tryz.ntmps144
   go_wp2_with (first | go_in)
   go_ret
   exact ⟨rfl, rfl⟩
theorem rmode_any (kind : Int) (w : World) :
  Calls Tryz.prog 125 #[.int .i64 kind] w fun e w' => e = .returned (.int .i64 (modeP kind)) ∧ w = w' := by
 rcases kinds_c kind with rfl | rfl | h | h | rfl | h | h | rfl | h
 ·rw [mode_1 24 (by decide)]
  go_enter Tryz.func125, Tryz.ntmps125
  go_wp2_with (first | go_in)
  go_ret
  exact ⟨rfl, rfl⟩
 ·rw [mode_1 28 (by decide)]
  go_enter Tryz.func125, Tryz.ntmps125
  go_wp2_with (first | go_in)
  go_ret
  exact ⟨rfl, rfl⟩
 ·rw [mode_1 kind (Or.inl h)]
  have hk : kind = 2 ∨ kind = 3 ∨ kind = 4 ∨ kind = 5 ∨ kind = 6 ∨ kind = 7 ∨ kind = 8 ∨ kind = 9 ∨ kind = 10 ∨ kind = 11 ∨ kind = 12 ∨ kind = 13 ∨ kind = 14 ∨ kind = 15 := by omega
  clear h
  rcases hk with rfl | rfl | rfl | rfl | rfl | rfl | rfl | rfl | rfl | rfl | rfl | rfl | rfl | rfl
  all_goals
   go_enter Tryz.func125, Tryz.ntmps125
   go_wp2_with (first | go_in)
   go_ret
   exact ⟨rfl, rfl⟩
 ·rw [mode_3 kind h]
  rcases h with rfl | rfl
  all_goals
   go_enter Tryz.func125, Tryz.ntmps125
   go_wp2_with (first | go_in)
   go_ret
   exact ⟨rfl, rfl⟩
 ·rw [mode_4]
  go_enter Tryz.func125, Tryz.ntmps125
  go_wp2_with (first | go_in)
  go_ret
  exact ⟨rfl, rfl⟩
 ·rw [mode_2 kind h]
  rcases h with rfl | rfl | rfl | rfl | rfl
  all_goals
   go_enter Tryz.func125, Tryz.ntmps125
   go_wp2_with (first | go_in)
   go_ret
   exact ⟨rfl, rfl⟩
 ·rw [mode_0 kind (by omega)]
  rcases h with rfl | rfl | rfl
  all_goals
   go_enter Tryz.func125, Tryz.ntmps125
   go_wp2_with (first | go_in)
   go_ret
   exact ⟨rfl, rfl⟩
 ·rw [mode_0 32 (by decide)]
  go_enter Tryz.func125, Tryz.ntmps125
  go_wp2_with (first | go_in)
  go_ret
  exact ⟨rfl, rfl⟩
 ·rw [mode_0 kind (by omega)]
  have t1 : (kind == 1) = false := by simp; omega
  have t2 : (kind == 2) = false := by simp; omega
  have t3 : (kind == 3) = false := by simp; omega
  have t4 : (kind == 4) = false := by simp; omega
  have t5 : (kind == 5) = false := by simp; omega
  have t6 : (kind == 6) = false := by simp; omega
  have t7 : (kind == 7) = false := by simp; omega
  have t8 : (kind == 8) = false := by simp; omega
  have t9 : (kind == 9) = false := by simp; omega
  have t10 : (kind == 10) = false := by simp; omega
  have t11 : (kind == 11) = false := by simp; omega
  have t12 : (kind == 12) = false := by simp; omega
  have t13 : (kind == 13) = false := by simp; omega
  have t14 : (kind == 14) = false := by simp; omega
  have t15 : (kind == 15) = false := by simp; omega
  have t16 : (kind == 16) = false := by simp; omega
  have t17 : (kind == 17) = false := by simp; omega
  have t18 : (kind == 18) = false := by simp; omega
  have t19 : (kind == 19) = false := by simp; omega
  have t20 : (kind == 20) = false := by simp; omega
  have t21 : (kind == 21) = false := by simp; omega
  have t22 : (kind == 22) = false := by simp; omega
  have t24 : (kind == 24) = false := by simp; omega
  have t28 : (kind == 28) = false := by simp; omega
  clear h
  go_enter Tryz.func125, Tryz.ntmps125
  go_wp2_with (first | go_in)
  go_ret
  exact ⟨rfl, rfl⟩
def pushB (kind : Int) : Bool := decide (kind = 25 ∨ kind = 26 ∨ kind = 27)
theorem push_yes (kind : Int) (h : kind = 25 ∨ kind = 26 ∨ kind = 27) : pushB kind = true := decide_eq_true h
theorem push_no (kind : Int) (h : ¬ (kind = 25 ∨ kind = 26 ∨ kind = 27)) : pushB kind = false := decide_eq_false h
theorem button_any (kind : Int) (w : World) :
  Calls Tryz.prog 145 #[.int .i64 kind] w fun e w' => e = .returned (.bool (pushB kind)) ∧ w = w' := by
 by_cases h : kind = 25 ∨ kind = 26 ∨ kind = 27
 ·rw [push_yes kind h]
  rcases h with rfl | rfl | rfl
  all_goals
   go_enter Tryz.func145, Tryz.ntmps145
   go_wp2_with (first | go_in)
   go_ret
   exact ⟨rfl, rfl⟩
 ·rw [push_no kind h]
  have t25 : (kind == 25) = false := by simp; omega
  have t26 : (kind == 26) = false := by simp; omega
  have t27 : (kind == 27) = false := by simp; omega
  rcases Int.lt_or_le kind 25 with g | g
  ·clear h
   go_enter Tryz.func145, Tryz.ntmps145
   go_wp2_with (first | go_in)
   go_ret
   exact ⟨rfl, rfl⟩
  ·have g2 : ¬ kind ≤ 27 := by omega
   clear h
   go_enter Tryz.func145, Tryz.ntmps145
   go_wp2_with (first | go_in)
   go_ret
   exact ⟨rfl, rfl⟩
theorem pushes_any (kind : Int) (w : World) :
  Calls Tryz.prog 126 #[.int .i64 kind] w fun e w' => e = .returned (.bool (pushB kind)) ∧ w = w' := by
 by_cases h : kind = 25 ∨ kind = 26 ∨ kind = 27
 ·rw [push_yes kind h]
  rcases h with rfl | rfl | rfl
  all_goals
   go_enter Tryz.func126, Tryz.ntmps126
   go_wp2_with (first | go_in)
   go_ret
   exact ⟨rfl, rfl⟩
 ·rw [push_no kind h]
  have t25 : (kind == 25) = false := by simp; omega
  have t26 : (kind == 26) = false := by simp; omega
  have t27 : (kind == 27) = false := by simp; omega
  rcases Int.lt_or_le kind 25 with g | g
  ·clear h
   go_enter Tryz.func126, Tryz.ntmps126
   go_wp2_with (first | go_in)
   go_ret
   exact ⟨rfl, rfl⟩
  ·have g2 : ¬ kind ≤ 27 := by omega
   clear h
   go_enter Tryz.func126, Tryz.ntmps126
   go_wp2_with (first | go_in)
   go_ret
   exact ⟨rfl, rfl⟩
end Go.Proofs.YtkhlfggnjcbniaaGreatDoor.ctl
