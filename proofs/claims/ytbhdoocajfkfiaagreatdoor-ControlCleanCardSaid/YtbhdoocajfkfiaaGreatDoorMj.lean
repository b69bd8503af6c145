/- The contract of clean.Value. The contract of the reference's Value of law13. -/
import Derived.Test.YtbhdoocajfkfiaaGreatDoorMi
import Derived.Test.YtbhdoocajfkfiaaGreatDoorMe
import Derived.Test.YtbhdoocajfkfiaaGreatDoorMd
import Derived.Test.YtbhdoocajfkfiaaGreatDoorMh
import Derived.Test.YtbhdoocajfkfiaaGreatDoorMf
namespace Go.Proofs.YtbhdoocajfkfiaaGreatDoor.cln
open Go.ChangeShapes Go.WideShapes Go.ChangeAt Go.RowKit Go.Lib Go.Proofs.YtbhdoocajfkfiaaGreatDoor.num Go.Proofs.YtbhdoocajfkfiaaGreatDoor.mom Go.Proofs.YtbhdoocajfkfiaaGreatDoor.fits Go.Proofs.YtbhdoocajfkfiaaGreatDoor.atr Go.Proofs.YtbhdoocajfkfiaaGreatDoor.link Go.Proofs.YtbhdoocajfkfiaaGreatDoor.stp

theorem i64_of (n : Int) (h : -1000000 ≤ n ∧ n ≤ 1000000) : i64 n := ⟨by omega, by omega⟩
set_option maxHeartbeats 1600000 in
set_option maxRecDepth 100000 in
theorem cval_A (kind : Int) (h : kind = 2 ∨ kind = 3 ∨ kind = 4 ∨ kind = 7) (v : Value) (s : List UInt8) (hs : s.length ≤ 1000000) (w : World) (hG : G w) (_hE : GE w) :
    Calls Tryz.prog 70 #[.int .i64 kind, v, .string ⟨s.toArray⟩] w fun e w' => e = .returned (.string ⟨(noBr s).toArray⟩) ∧ Below w.heap.size w w' := by
  have hx := fun w g => nobreaks_any s (by omega) w g
  generalize noBr s = t at *
  rcases h with rfl | rfl | rfl | rfl
  all_goals (
    go_enter Tryz.func70, Tryz.ntmps70
    go_wp2_with fail
    refine (hx w hG).mono ?_
    rintro e w1 ⟨rfl, hB⟩
    go_wp2_with fail
    go_ret
    exact ⟨rfl, hB⟩)

set_option maxHeartbeats 1600000 in
set_option maxRecDepth 100000 in
theorem cval_5 (v : Value) (s : List UInt8) (hs : s.length ≤ 1000000) (w : World) (hG : G w) (_hE : GE w) :
    Calls Tryz.prog 70 #[.int .i64 5, v, .string ⟨s.toArray⟩] w fun e w' => e = .returned (.string ⟨(trimM s).toArray⟩) ∧ Below w.heap.size w w' := by
  have hx := fun w g => mtrim_any s (by omega) w g
  generalize trimM s = t at *
  go_enter Tryz.func70, Tryz.ntmps70
  go_wp2_with fail
  refine (hx w hG).mono ?_
  rintro e w1 ⟨rfl, hB⟩
  go_wp2_with fail
  go_ret
  exact ⟨rfl, hB⟩

set_option maxHeartbeats 1600000 in
set_option maxRecDepth 100000 in
theorem cval_15 (v : Value) (s : List UInt8) (hs : s.length ≤ 1000000) (w : World) (_hG : G w) (_hE : GE w) :
    Calls Tryz.prog 70 #[.int .i64 15, v, .string ⟨s.toArray⟩] w fun e w' => e = .returned (.string ⟨(cleanC s).toArray⟩) ∧ Below w.heap.size w w' := by
  have hx := fun w => cleanc_any s (by omega) w
  generalize cleanC s = t at *
  go_enter Tryz.func70, Tryz.ntmps70
  go_wp2_with fail
  refine (hx w).mono ?_
  rintro e w1 ⟨rfl, hB⟩
  go_wp2_with fail
  go_ret
  exact ⟨rfl, hB⟩

set_option maxHeartbeats 1600000 in
set_option maxRecDepth 100000 in
theorem cval_14 (v : Value) (l : List Attr) (hl : Fine l) (s : List UInt8) (hs : s.length ≤ 1000000) (w : World) (hA : AttrsAt w v l) (hG : G w) (hE : GE w) :
    Calls Tryz.prog 70 #[.int .i64 14, v, .string ⟨s.toArray⟩] w fun e w' => e = .returned (.string ⟨(rangeV l s).toArray⟩) ∧ Below w.heap.size w w' := by
  have hx := fun w h g k => ranged_any v l hl s hs w h g k
  generalize rangeV l s = t at *
  go_enter Tryz.func70, Tryz.ntmps70
  go_wp2_with fail
  refine (hx w hA hG hE).mono ?_
  rintro e w1 ⟨rfl, hB⟩
  go_wp2_with fail
  go_ret
  exact ⟨rfl, hB⟩

set_option maxHeartbeats 1600000 in
set_option maxRecDepth 100000 in
theorem cval_6 (v : Value) (l : List Attr) (hl : l.length ≤ 1000000000) (s : List UInt8) (hs : s.length ≤ 1000000) (w : World) (hA : AttrsAt w v l) (hG : G w) :
    Calls Tryz.prog 70 #[.int .i64 6, v, .string ⟨s.toArray⟩] w fun e w' => e = .returned (.string ⟨(if multB l = true then cleanM s else trimM s).toArray⟩) ∧ Below w.heap.size w w' := by
  have hm := mult_any v l hl w hA
  have h1 := fun w g => mclean_any s hs w g
  have h2 := fun w g => mtrim_any s (by omega) w g
  generalize cleanM s = t at *
  generalize trimM s = u at *
  cases hb : multB l
  · rw [hb] at hm
    rw [if_neg (by decide)]
    clear hb h1
    go_enter Tryz.func70, Tryz.ntmps70
    go_wp2_with fail
    refine hm.mono ?_
    rintro e w1 ⟨rfl, hB⟩
    go_wp2_with fail
    refine (h2 w1 (hG.below hB)).mono ?_
    rintro e w2 ⟨rfl, hB2⟩
    go_wp2_with fail
    go_ret
    exact ⟨rfl, below_trans hB hB2⟩
  · rw [hb] at hm
    rw [if_pos rfl]
    clear hb h2
    go_enter Tryz.func70, Tryz.ntmps70
    go_wp2_with fail
    refine hm.mono ?_
    rintro e w1 ⟨rfl, hB⟩
    go_wp2_with fail
    refine (h1 w1 (hG.below hB)).mono ?_
    rintro e w2 ⟨rfl, hB2⟩
    go_wp2_with fail
    go_ret
    exact ⟨rfl, below_trans hB hB2⟩

set_option maxHeartbeats 1600000 in
set_option maxRecDepth 100000 in
theorem cval_B (kind : Int) (h : kind = 8 ∨ kind = 9 ∨ kind = 10 ∨ kind = 11 ∨ kind = 13) (v : Value) (s : List UInt8) (hs : s.length ≤ 1000000) (w : World) (hG : G w) (hE : GE w) :
    Calls Tryz.prog 70 #[.int .i64 kind, v, .string ⟨s.toArray⟩] w fun e w' => e = .returned (.string ⟨(if (valK kind s).2 = true then s else []).toArray⟩) ∧ Below w.heap.size w w' := by
  have hx := fun w g k => value_any kind (i64_of kind (by omega)) s hs w g k
  generalize (valK kind s).1 = n at *
  generalize (valK kind s).2 = ok at *
  cases ok
  all_goals (
    rcases h with rfl | rfl | rfl | rfl | rfl
    all_goals (
      go_enter Tryz.func70, Tryz.ntmps70
      go_wp2_with fail
      refine (hx w hG hE).mono ?_
      rintro e w1 ⟨rfl, hB⟩
      go_wp2_with fail
      go_ret
      exact ⟨rfl, hB⟩))

set_option maxHeartbeats 1600000 in
set_option maxRecDepth 100000 in
theorem cval_12 (v : Value) (s : List UInt8) (hs : s.length ≤ 1000000) (w : World) (hG : G w) (hE : GE w) :
    Calls Tryz.prog 70 #[.int .i64 12, v, .string ⟨s.toArray⟩] w fun e w' => e = .returned (.string ⟨(if (valK 12 s).2 = true then (showK 12 (valK 12 s).1).1 else []).toArray⟩) ∧ Below w.heap.size w w' := by
  have hx := fun w g k => value_any 12 (i64_of 12 (by omega)) s hs w g k
  have hy := fun w g => show_any 12 (i64_of 12 (by omega)) (valK 12 s).1 (valK_64 12 s) w g
  generalize (showK 12 (valK 12 s).1).1 = t at *
  generalize (showK 12 (valK 12 s).1).2 = q at *
  generalize (valK 12 s).1 = n at *
  generalize (valK 12 s).2 = ok at *
  cases ok
  · clear hy
    go_enter Tryz.func70, Tryz.ntmps70
    go_wp2_with fail
    refine (hx w hG hE).mono ?_
    rintro e w1 ⟨rfl, hB⟩
    go_wp2_with fail
    go_ret
    exact ⟨rfl, hB⟩
  · go_enter Tryz.func70, Tryz.ntmps70
    go_wp2_with fail
    refine (hx w hG hE).mono ?_
    rintro e w1 ⟨rfl, hB⟩
    go_wp2_with fail
    refine (hy w1 (hG.below hB)).mono ?_
    rintro e w2 ⟨rfl, hB2⟩
    go_wp2_with fail
    go_ret
    exact ⟨rfl, below_trans hB hB2⟩

set_option maxHeartbeats 1600000 in
set_option maxRecDepth 100000 in
theorem cval_no (kind : Int) (h : ¬ (2 ≤ kind ∧ kind ≤ 15)) (v : Value) (s : List UInt8) (w : World) :
    Calls Tryz.prog 70 #[.int .i64 kind, v, .string ⟨s.toArray⟩] w fun e w' => e = .returned (.string ⟨(s).toArray⟩) ∧ Below w.heap.size w w' := by
  have e2 : (kind == 2) = false := by simp; omega
  have e3 : (kind == 3) = false := by simp; omega
  have e4 : (kind == 4) = false := by simp; omega
  have e5 : (kind == 5) = false := by simp; omega
  have e6 : (kind == 6) = false := by simp; omega
  have e7 : (kind == 7) = false := by simp; omega
  have e8 : (kind == 8) = false := by simp; omega
  have e9 : (kind == 9) = false := by simp; omega
  have e10 : (kind == 10) = false := by simp; omega
  have e11 : (kind == 11) = false := by simp; omega
  have e12 : (kind == 12) = false := by simp; omega
  have e13 : (kind == 13) = false := by simp; omega
  have e14 : (kind == 14) = false := by simp; omega
  have e15 : (kind == 15) = false := by simp; omega
  clear h
  go_enter Tryz.func70, Tryz.ntmps70
  go_wp2_with fail
  go_ret
  exact ⟨rfl, Below.refl _ _⟩

theorem cval_any (kind : Int) (v : Value) (l : List Attr) (hl : Fine l) (s : List UInt8) (hs : s.length ≤ 1000000) (w : World) (hA : AttrsAt w v l) (hG : G w) (hE : GE w) :
    Calls Tryz.prog 70 #[.int .i64 kind, v, .string ⟨s.toArray⟩] w fun e w' => e = .returned (.string ⟨(cleanV kind l s).toArray⟩) ∧ Below w.heap.size w w' := by
  rcases kindsV kind with h | rfl | rfl | h | rfl | rfl | rfl | h
  · rw [cleanV_A _ _ _ h]; exact cval_A kind h v s hs w hG hE
  · rw [cleanV_5]; exact cval_5 v s hs w hG hE
  · rw [cleanV_6]; exact cval_6 v l hl.1 s hs w hA hG
  · rw [cleanV_B _ _ _ h]; exact cval_B kind h v s hs w hG hE
  · rw [cleanV_12]; exact cval_12 v s hs w hG hE
  · rw [cleanV_14]; exact cval_14 v l hl s hs w hA hG hE
  · rw [cleanV_15]; exact cval_15 v s hs w hG hE
  · rw [cleanV_no _ _ _ h]; exact cval_no kind h v s w
end Go.Proofs.YtbhdoocajfkfiaaGreatDoor.cln

namespace Go.Proofs.YtbhdoocajfkfiaaGreatDoor.cln
open Go.ChangeShapes Go.WideShapes Go.ChangeAt Go.RowKit Go.Lib Go.Proofs.YtbhdoocajfkfiaaGreatDoor.num Go.Proofs.YtbhdoocajfkfiaaGreatDoor.mom Go.Proofs.YtbhdoocajfkfiaaGreatDoor.fits Go.Proofs.YtbhdoocajfkfiaaGreatDoor.atr Go.Proofs.YtbhdoocajfkfiaaGreatDoor.link Go.Proofs.YtbhdoocajfkfiaaGreatDoor.stp

set_option maxHeartbeats 1600000 in
set_option maxRecDepth 100000 in
theorem rval_A (kind : Int) (h : kind = 2 ∨ kind = 3 ∨ kind = 4 ∨ kind = 7) (v : Value) (s : List UInt8) (hs : s.length ≤ 1000000) (w : World) :
    Calls Tryz.prog 31 #[.int .i64 kind, v, .string ⟨s.toArray⟩] w fun e w' => e = .returned (.string ⟨(noBr s).toArray⟩) ∧ Below w.heap.size w w' := by
  have hv := fun w => rvalue_any kind (i64_of kind (by omega)) s hs w
  have hx := fun w => rnobreaks_any s hs w
  generalize noBr s = t at *
  generalize (valK kind s).1 = n at *
  generalize (valK kind s).2 = ok at *
  rcases h with rfl | rfl | rfl | rfl
  all_goals (
    go_enter Tryz.func31, Tryz.ntmps31
    go_wp2_with fail
    refine (hv w).mono ?_
    rintro e w1 ⟨rfl, hB⟩
    go_wp2_with fail
    refine (hx w1).mono ?_
    rintro e w2 ⟨rfl, hB2⟩
    go_wp2_with fail
    go_ret
    exact ⟨rfl, below_trans hB hB2⟩)

set_option maxHeartbeats 1600000 in
set_option maxRecDepth 100000 in
theorem rval_5 (v : Value) (s : List UInt8) (hs : s.length ≤ 1000000) (w : World) :
    Calls Tryz.prog 31 #[.int .i64 5, v, .string ⟨s.toArray⟩] w fun e w' => e = .returned (.string ⟨(trimM s).toArray⟩) ∧ Below w.heap.size w w' := by
  have hv := fun w => rvalue_any 5 (i64_of 5 (by omega)) s hs w
  have hx := fun w => rtrim_any s hs w
  generalize trimM s = t at *
  generalize (valK 5 s).1 = n at *
  generalize (valK 5 s).2 = ok at *
  go_enter Tryz.func31, Tryz.ntmps31
  go_wp2_with fail
  refine (hv w).mono ?_
  rintro e w1 ⟨rfl, hB⟩
  go_wp2_with fail
  refine (hx w1).mono ?_
  rintro e w2 ⟨rfl, hB2⟩
  go_wp2_with fail
  go_ret
  exact ⟨rfl, below_trans hB hB2⟩

set_option maxHeartbeats 1600000 in
set_option maxRecDepth 100000 in
theorem rval_15 (v : Value) (s : List UInt8) (hs : s.length ≤ 1000000) (w : World) :
    Calls Tryz.prog 31 #[.int .i64 15, v, .string ⟨s.toArray⟩] w fun e w' => e = .returned (.string ⟨(cleanC s).toArray⟩) ∧ Below w.heap.size w w' := by
  have hv := fun w => rvalue_any 15 (i64_of 15 (by omega)) s hs w
  have hx := fun w => rcleanc_any s (by omega) w
  generalize cleanC s = t at *
  generalize (valK 15 s).1 = n at *
  generalize (valK 15 s).2 = ok at *
  go_enter Tryz.func31, Tryz.ntmps31
  go_wp2_with fail
  refine (hv w).mono ?_
  rintro e w1 ⟨rfl, hB⟩
  go_wp2_with fail
  refine (hx w1).mono ?_
  rintro e w2 ⟨rfl, hB2⟩
  go_wp2_with fail
  go_ret
  exact ⟨rfl, below_trans hB hB2⟩

set_option maxHeartbeats 1600000 in
set_option maxRecDepth 100000 in
theorem rval_14 (v : Value) (l : List Attr) (hl : Fine l) (s : List UInt8) (hs : s.length ≤ 1000000) (w : World) (hA : AttrsAt w v l) :
    Calls Tryz.prog 31 #[.int .i64 14, v, .string ⟨s.toArray⟩] w fun e w' => e = .returned (.string ⟨(rangeV l s).toArray⟩) ∧ Below w.heap.size w w' := by
  have hv := fun w => rvalue_any 14 (i64_of 14 (by omega)) s hs w
  have hx := fun w h => rrange_any v l hl s hs w h
  generalize rangeV l s = t at *
  generalize (valK 14 s).1 = n at *
  generalize (valK 14 s).2 = ok at *
  go_enter Tryz.func31, Tryz.ntmps31
  go_wp2_with fail
  refine (hv w).mono ?_
  rintro e w1 ⟨rfl, hB⟩
  go_wp2_with fail
  refine (hx w1 (hA.below hB)).mono ?_
  rintro e w2 ⟨rfl, hB2⟩
  go_wp2_with fail
  go_ret
  exact ⟨rfl, below_trans hB hB2⟩

set_option maxHeartbeats 1600000 in
set_option maxRecDepth 100000 in
theorem rval_6 (v : Value) (l : List Attr) (hl : l.length ≤ 1000000000) (s : List UInt8) (hs : s.length ≤ 1000000) (w : World) (hA : AttrsAt w v l) :
    Calls Tryz.prog 31 #[.int .i64 6, v, .string ⟨s.toArray⟩] w fun e w' => e = .returned (.string ⟨(if multB l = true then cleanM s else trimM s).toArray⟩) ∧ Below w.heap.size w w' := by
  have hv := fun w => rvalue_any 6 (i64_of 6 (by omega)) s hs w
  have hm := multB_fint l
  have hf : ∀ w, AttrsAt w v l → Calls Tryz.prog 74 #[v, .string ⟨#[109, 117, 108, 116, 105, 112, 108, 101]⟩] w fun e w' => e = .returned (.int .i64 (fint nMult l)) ∧ w = w' := fun w h => rfind_any v l nMult hl w h
  have h1 := fun w => rclean_any s hs w
  have h2 := fun w => rtrim_any s hs w
  generalize cleanM s = t at *
  generalize trimM s = u at *
  generalize (valK 6 s).1 = n at *
  generalize (valK 6 s).2 = ok at *
  generalize fint nMult l = q at *
  cases hb : multB l
  · rw [hb] at hm
    have hq : ¬ 0 ≤ q := of_decide_eq_false hm
    rw [if_neg (by decide)]
    clear hb h1 hm
    go_enter Tryz.func31, Tryz.ntmps31
    go_wp2_with fail
    refine (hv w).mono ?_
    rintro e w1 ⟨rfl, hB⟩
    go_wp2_with fail
    refine (hf w1 (hA.below hB)).mono ?_
    rintro e w' ⟨rfl, rfl⟩
    go_wp2_with fail
    refine (h2 w1).mono ?_
    rintro e w2 ⟨rfl, hB2⟩
    go_wp2_with fail
    go_ret
    exact ⟨rfl, below_trans hB hB2⟩
  · rw [hb] at hm
    have hq : 0 ≤ q := of_decide_eq_true hm
    rw [if_pos rfl]
    clear hb h2 hm
    go_enter Tryz.func31, Tryz.ntmps31
    go_wp2_with fail
    refine (hv w).mono ?_
    rintro e w1 ⟨rfl, hB⟩
    go_wp2_with fail
    refine (hf w1 (hA.below hB)).mono ?_
    rintro e w' ⟨rfl, rfl⟩
    go_wp2_with fail
    refine (h1 w1).mono ?_
    rintro e w2 ⟨rfl, hB2⟩
    go_wp2_with fail
    go_ret
    exact ⟨rfl, below_trans hB hB2⟩

set_option maxHeartbeats 1600000 in
set_option maxRecDepth 100000 in
theorem rval_B (kind : Int) (h : kind = 8 ∨ kind = 9 ∨ kind = 10 ∨ kind = 11 ∨ kind = 13) (v : Value) (s : List UInt8) (hs : s.length ≤ 1000000) (w : World) :
    Calls Tryz.prog 31 #[.int .i64 kind, v, .string ⟨s.toArray⟩] w fun e w' => e = .returned (.string ⟨(if (valK kind s).2 = true then s else []).toArray⟩) ∧ Below w.heap.size w w' := by
  have hv := fun w => rvalue_any kind (i64_of kind (by omega)) s hs w
  generalize (valK kind s).1 = n at *
  generalize (valK kind s).2 = ok at *
  cases ok
  all_goals (
    rcases h with rfl | rfl | rfl | rfl | rfl
    all_goals (
      go_enter Tryz.func31, Tryz.ntmps31
      go_wp2_with fail
      refine (hv w).mono ?_
      rintro e w1 ⟨rfl, hB⟩
      go_wp2_with fail
      go_ret
      exact ⟨rfl, hB⟩))

set_option maxHeartbeats 1600000 in
set_option maxRecDepth 100000 in
theorem rval_12 (v : Value) (s : List UInt8) (hs : s.length ≤ 1000000) (w : World) :
    Calls Tryz.prog 31 #[.int .i64 12, v, .string ⟨s.toArray⟩] w fun e w' => e = .returned (.string ⟨(if (valK 12 s).2 = true then (showK 12 (valK 12 s).1).1 else []).toArray⟩) ∧ Below w.heap.size w w' := by
  have hv := fun w => rvalue_any 12 (i64_of 12 (by omega)) s hs w
  have hy := fun w => rshowk_any 12 (i64_of 12 (by omega)) (valK 12 s).1 (valK_64 12 s) w
  generalize (showK 12 (valK 12 s).1).1 = t at *
  generalize (showK 12 (valK 12 s).1).2 = q at *
  generalize (valK 12 s).1 = n at *
  generalize (valK 12 s).2 = ok at *
  cases ok
  all_goals (
    go_enter Tryz.func31, Tryz.ntmps31
    go_wp2_with fail
    refine (hv w).mono ?_
    rintro e w1 ⟨rfl, hB⟩
    go_wp2_with fail
    refine (hy w1).mono ?_
    rintro e w2 ⟨rfl, hB2⟩
    go_wp2_with fail
    go_ret
    exact ⟨rfl, below_trans hB hB2⟩)

set_option maxHeartbeats 1600000 in
set_option maxRecDepth 100000 in
theorem rval_no (kind : Int) (hk : i64 kind) (h : ¬ (2 ≤ kind ∧ kind ≤ 15)) (v : Value) (s : List UInt8) (hs : s.length ≤ 1000000) (w : World) :
    Calls Tryz.prog 31 #[.int .i64 kind, v, .string ⟨s.toArray⟩] w fun e w' => e = .returned (.string ⟨(s).toArray⟩) ∧ Below w.heap.size w w' := by
  have hv := fun w => rvalue_any kind hk s hs w
  generalize (valK kind s).1 = n at *
  generalize (valK kind s).2 = ok at *
  have e2 : (kind == 2) = false := by simp; omega
  have e3 : (kind == 3) = false := by simp; omega
  have e4 : (kind == 4) = false := by simp; omega
  have e5 : (kind == 5) = false := by simp; omega
  have e6 : (kind == 6) = false := by simp; omega
  have e7 : (kind == 7) = false := by simp; omega
  have e8 : (kind == 8) = false := by simp; omega
  have e9 : (kind == 9) = false := by simp; omega
  have e10 : (kind == 10) = false := by simp; omega
  have e11 : (kind == 11) = false := by simp; omega
  have e12 : (kind == 12) = false := by simp; omega
  have e13 : (kind == 13) = false := by simp; omega
  have e14 : (kind == 14) = false := by simp; omega
  have e15 : (kind == 15) = false := by simp; omega
  clear h
  go_enter Tryz.func31, Tryz.ntmps31
  go_wp2_with fail
  refine (hv w).mono ?_
  rintro e w1 ⟨rfl, hB⟩
  go_wp2_with fail
  go_ret
  exact ⟨rfl, hB⟩

theorem rval_any (kind : Int) (hk : i64 kind) (v : Value) (l : List Attr) (hl : Fine l) (s : List UInt8) (hs : s.length ≤ 1000000) (w : World) (hA : AttrsAt w v l) :
    Calls Tryz.prog 31 #[.int .i64 kind, v, .string ⟨s.toArray⟩] w fun e w' => e = .returned (.string ⟨(cleanV kind l s).toArray⟩) ∧ Below w.heap.size w w' := by
  rcases kindsV kind with h | rfl | rfl | h | rfl | rfl | rfl | h
  · rw [cleanV_A _ _ _ h]; exact rval_A kind h v s hs w
  · rw [cleanV_5]; exact rval_5 v s hs w
  · rw [cleanV_6]; exact rval_6 v l hl.1 s hs w hA
  · rw [cleanV_B _ _ _ h]; exact rval_B kind h v s hs w
  · rw [cleanV_12]; exact rval_12 v s hs w
  · rw [cleanV_14]; exact rval_14 v l hl s hs w hA
  · rw [cleanV_15]; exact rval_15 v s hs w
  · rw [cleanV_no _ _ _ h]; exact rval_no kind hk h v s hs w
end Go.Proofs.YtbhdoocajfkfiaaGreatDoor.cln
