/- The contracts of number.left, number.Fits, number.Down and of the reference's Left, Fits, Down: each computes what the plain functions below say, for every step above 0 (and the early ways for any other). -/
import Derived.Test.YtbndlpmhbocbjaaRows
import Derived.WalkKit
import Derived.ProofKit
import Derived.Lib.Hide
namespace Go.Proofs.Ytbndlpmhbocbjaa.fits
open Go.ChangeShapes Go.WideShapes Go.ChangeAt Go.RowKit

/-- what a division leaves, from 0 on -/
def lft (n s : Int) : Int := n % s

theorem lft_of (n s : Int) (hs : 0 < s) : (0 ≤ n.tmod s ∧ lft n s = n.tmod s ∧ (0 ≤ n ∨ n.tmod s = 0)) ∨ (n.tmod s < 0 ∧ n < 0 ∧ lft n s = n.tmod s + s) := by
  unfold lft
  have h0 := Int.tmod_eq_emod (a := n) (b := s)
  have h1 := Int.emod_nonneg n (show s ≠ 0 by omega)
  have h2 := Int.emod_lt_of_pos n hs
  have h3 : ((s.natAbs : Nat) : Int) = s := by omega
  split at h0
  · left
    rename_i hh
    refine ⟨by omega, by omega, ?_⟩
    rcases hh with hh | hh
    · left; exact hh
    · right; rw [Int.emod_eq_zero_of_dvd hh] at h0; omega
  · right; rename_i hh; refine ⟨by omega, ?_, by omega⟩; omega

theorem lft_bd (n s : Int) (hs : 0 < s) : 0 ≤ lft n s ∧ lft n s < s :=
  ⟨Int.emod_nonneg _ (by omega), Int.emod_lt_of_pos _ hs⟩

theorem ret_int {k : IntKind} {a b : Int} (h : a = b) : Ending.returned (.int k a) = .returned (.int k b) := by rw [h]

theorem left_any (n s : Int) (w : World) (hs : 0 < s) (h2 : s ≤ 9223372036854775807) (h3 : -9223372036854775808 ≤ n) (h4 : n ≤ 9223372036854775807) :
    Calls Try.prog 9 #[.int .i64 n, .int .i64 s] w fun e w' => e = .returned (.int .i64 (lft n s)) ∧ w = w' := by
  have hl := lft_of n s hs
  have hb := lft_bd n s hs
  rcases hl with ⟨hl, he, _⟩ | ⟨hl, hn, he⟩
  · have H := Lib.hid he; clear he
    go_enter Try.func9, Try.ntmps9
    go_wp2
    go_ret
    exact ⟨ret_int H.out.symm, rfl⟩
  · have hx : -9223372036854775808 ≤ n.tmod s + s := by omega
    have hy : n.tmod s + s ≤ 9223372036854775807 := by omega
    have H := Lib.hid he; clear he
    go_enter Try.func9, Try.ntmps9
    go_wp2
    go_ret
    exact ⟨ret_int H.out.symm, rfl⟩

theorem refleft_any (n s : Int) (w : World) (hs : 0 < s) (h2 : s ≤ 9223372036854775807) (h3 : -9223372036854775808 ≤ n) (h4 : n ≤ 9223372036854775807) :
    Calls Try.prog 10 #[.int .i64 n, .int .i64 s] w fun e w' => e = .returned (.int .i64 (lft n s)) ∧ w = w' := by
  by_cases h0 : 0 ≤ n
  · go_enter Try.func10, Try.ntmps10
    go_wp2
    go_ret
    exact ⟨rfl, rfl⟩
  · have hl := lft_of n s hs
    have hb := lft_bd n s hs
    by_cases hz : n.tmod s = 0
    · have he : lft n s = 0 := by omega
      have H := Lib.hid he; clear he hl
      have hq : (n.tmod s == 0) = true := by simpa using hz
      clear hz
      go_enter Try.func10, Try.ntmps10
      go_wp2
      go_ret
      exact ⟨ret_int H.out.symm, rfl⟩
    · have htn : n.tmod s < 0 := by omega
      have he : lft n s = s + n.tmod s := by omega
      have hx : -9223372036854775808 ≤ s + n.tmod s := by omega
      have hy : s + n.tmod s ≤ 9223372036854775807 := by omega
      have H := Lib.hid he; clear he hl
      have hq : (n.tmod s == 0) = false := by simpa using hz
      clear hz
      go_enter Try.func10, Try.ntmps10
      go_wp2
      go_ret
      exact ⟨ret_int H.out.symm, rfl⟩

/-- 'so many steps from a base' -/
def fitsB (n b s : Int) : Bool := decide (0 < s) && (lft n s == lft b s)

theorem fitsB_no (n b s : Int) (h : ¬ 0 < s) : fitsB n b s = false := by
  unfold fitsB; rw [decide_eq_false h]; rfl

theorem ret_bool {a b : Bool} (h : a = b) : Ending.returned (.bool a) = .returned (.bool b) := by rw [h]

theorem fits_any (n b s : Int) (w : World) (h1 : -9223372036854775808 ≤ s) (h2 : s ≤ 9223372036854775807) (h3 : -9223372036854775808 ≤ n) (h4 : n ≤ 9223372036854775807) (h5 : -9223372036854775808 ≤ b) (h6 : b ≤ 9223372036854775807) :
    Calls Try.prog 5 #[.int .i64 n, .int .i64 b, .int .i64 s] w fun e w' => e = .returned (.bool (fitsB n b s)) ∧ w = w' := by
  by_cases hs : 0 < s
  · go_enter Try.func5, Try.ntmps5
    go_wp2_with (go_at_call 9; refine (left_any _ _ _ (by omega) (by omega) (by omega) (by omega)).mono ?_; rintro e w' ⟨rfl, rfl⟩)
    go_ret
    exact ⟨ret_bool (by simp [fitsB, hs]), rfl⟩
  · go_enter Try.func5, Try.ntmps5
    go_wp2
    go_ret
    exact ⟨ret_bool (fitsB_no n b s (by omega)).symm, rfl⟩

theorem reffits_any (n b s : Int) (w : World) (h1 : -9223372036854775808 ≤ s) (h2 : s ≤ 9223372036854775807) (h3 : -9223372036854775808 ≤ n) (h4 : n ≤ 9223372036854775807) (h5 : -9223372036854775808 ≤ b) (h6 : b ≤ 9223372036854775807) :
    Calls Try.prog 6 #[.int .i64 n, .int .i64 b, .int .i64 s] w fun e w' => e = .returned (.bool (fitsB n b s)) ∧ w = w' := by
  by_cases hs : 0 < s
  · go_enter Try.func6, Try.ntmps6
    go_wp2_with (go_at_call 10; refine (refleft_any _ _ _ (by omega) (by omega) (by omega) (by omega)).mono ?_; rintro e w' ⟨rfl, rfl⟩)
    go_ret
    exact ⟨ret_bool (by simp [fitsB, hs]), rfl⟩
  · go_enter Try.func6, Try.ntmps6
    go_wp2
    go_ret
    exact ⟨ret_bool (fitsB_no n b s (by omega)).symm, rfl⟩

/-- what is to be taken off a number, so that the rest fits -/
def over (n b s : Int) : Int := (n - b) % s

theorem over_of (n b s : Int) (hs : 0 < s) : (lft b s ≤ lft n s ∧ over n b s = lft n s - lft b s) ∨ (lft n s < lft b s ∧ over n b s = lft n s - lft b s + s) := by
  have e : over n b s = (lft n s - lft b s) % s := by unfold over lft; rw [Int.sub_emod]
  have h1 := lft_bd n s hs
  have h2 := lft_bd b s hs
  by_cases h : lft b s ≤ lft n s
  · left; refine ⟨h, ?_⟩; rw [e, Int.emod_eq_of_lt (by omega) (by omega)]
  · right; refine ⟨by omega, ?_⟩; rw [e, ← Int.add_emod_right, Int.emod_eq_of_lt (by omega) (by omega)]

theorem over_bd (n b s : Int) (hs : 0 < s) : 0 ≤ over n b s ∧ over n b s < s :=
  ⟨Int.emod_nonneg _ (by omega), Int.emod_lt_of_pos _ hs⟩

theorem over_fits (n b s : Int) (hs : 0 < s) : fitsB (n - over n b s) b s = true := by
  unfold fitsB lft over
  have e : (n - (n - b) % s) % s = b % s := by
    rw [Int.emod_eq_emod_iff_emod_sub_eq_zero]
    have := Int.mul_ediv_add_emod (n - b) s
    rw [show n - (n - b) % s - b = s * ((n - b) / s) by omega]
    exact Int.mul_emod_right _ _
  simp [hs, e]

/-- what Down answers -/
def downV (n b s : Int) : Int := if 0 < s ∧ -9223372036854775808 ≤ n - over n b s then n - over n b s else 0
def downB (n b s : Int) : Bool := decide (0 < s ∧ -9223372036854775808 ≤ n - over n b s)

theorem ret_down {a b : Int} {c d : Bool} (h : a = b) (g : c = d) : Ending.returned (.tuple #[.int .i64 a, .bool c]) = .returned (.tuple #[.int .i64 b, .bool d]) := by rw [h, g]

theorem wrap_low (x : Int) (h1 : -18446744073709551616 ≤ x) (h2 : x < -9223372036854775808) : wrap64 x = x + 18446744073709551616 := by
  unfold wrap64; omega

theorem wrap_gt (n x : Int) (h2 : x < -9223372036854775808) (h1 : -18446744073709551616 ≤ x) (h3 : n - x < 18446744073709551616) : n < wrap64 x := by
  rw [wrap_low x h1 h2]; omega

theorem downV_no (n b s : Int) (hs : ¬ 0 < s) : downV n b s = 0 := by unfold downV; rw [if_neg (fun g => hs g.1)]
theorem downB_no (n b s : Int) (hs : ¬ 0 < s) : downB n b s = false := by unfold downB; rw [decide_eq_false (fun g => hs g.1)]
theorem downV_low (n b s : Int) (h : ¬ -9223372036854775808 ≤ n - over n b s) : downV n b s = 0 := by unfold downV; rw [if_neg (fun g => h g.2)]
theorem downB_low (n b s : Int) (h : ¬ -9223372036854775808 ≤ n - over n b s) : downB n b s = false := by unfold downB; rw [decide_eq_false (fun g => h g.2)]
theorem downV_yes (n b s : Int) (hs : 0 < s) (h : -9223372036854775808 ≤ n - over n b s) : downV n b s = n - over n b s := by unfold downV; rw [if_pos ⟨hs, h⟩]
theorem downB_yes (n b s : Int) (hs : 0 < s) (h : -9223372036854775808 ≤ n - over n b s) : downB n b s = true := by unfold downB; rw [decide_eq_true ⟨hs, h⟩]

set_option maxHeartbeats 400000 in
theorem down_any (n b s : Int) (w : World) (h1 : -9223372036854775808 ≤ s) (h2 : s ≤ 9223372036854775807) (h3 : -9223372036854775808 ≤ n) (h4 : n ≤ 9223372036854775807) (h5 : -9223372036854775808 ≤ b) (h6 : b ≤ 9223372036854775807) :
    Calls Try.prog 7 #[.int .i64 n, .int .i64 b, .int .i64 s] w fun e w' => e = .returned (.tuple #[.int .i64 (downV n b s), .bool (downB n b s)]) ∧ w = w' := by
  by_cases hs : 0 < s
  · have hn := lft_bd n s hs
    have hb := lft_bd b s hs
    have ho := over_of n b s hs
    by_cases hx : -9223372036854775808 ≤ n - over n b s
    · have HV := Lib.hid (downV_yes n b s hs hx)
      have HB := Lib.hid (downB_yes n b s hs hx)
      rcases ho with ⟨hc, ho⟩ | ⟨hc, ho⟩
      all_goals
        rw [ho] at hx HV
        clear ho
        go_enter Try.func7, Try.ntmps7
        go_wp2_with (go_at_call 9; refine (left_any _ _ _ (by omega) (by omega) (by omega) (by omega)).mono ?_; rintro e w' ⟨rfl, rfl⟩)
        go_ret2
        exact ⟨ret_down HV.out.symm HB.out.symm, rfl⟩
    · have HV := Lib.hid (downV_low n b s hx)
      have HB := Lib.hid (downB_low n b s hx)
      rcases ho with ⟨hc, ho⟩ | ⟨hc, ho⟩
      all_goals
        rw [ho] at hx
        have hx' := Int.not_le.1 hx
        have hg := wrap_gt n _ hx' (by omega) (by omega)
        clear ho hx
        go_enter Try.func7, Try.ntmps7
        go_wp2_with (go_at_call 9; refine (left_any _ _ _ (by omega) (by omega) (by omega) (by omega)).mono ?_; rintro e w' ⟨rfl, rfl⟩)
        go_ret2
        exact ⟨ret_down HV.out.symm HB.out.symm, rfl⟩
  · have HV := Lib.hid (downV_no n b s hs)
    have HB := Lib.hid (downB_no n b s hs)
    go_enter Try.func7, Try.ntmps7
    go_wp2
    go_ret2
    exact ⟨ret_down HV.out.symm HB.out.symm, rfl⟩

theorem u64_mod (x : Int) : IntKind.u64.wrap x = x % 18446744073709551616 := by
  simp [IntKind.wrap, IntKind.signed, IntKind.bits]

theorem room_of (n : Int) (h3 : -9223372036854775808 ≤ n) (h4 : n ≤ 9223372036854775807) : IntKind.u64.wrap (IntKind.u64.wrap n - 9223372036854775808) = n + 9223372036854775808 := by
  rw [u64_mod, u64_mod]; omega

theorem downB_parts {n b s : Int} (h : downB n b s = true) : 0 < s ∧ -9223372036854775808 ≤ n - over n b s := by
  unfold downB at h; exact of_decide_eq_true h

set_option maxHeartbeats 400000 in
theorem refdown_any (n b s : Int) (w : World) (h1 : -9223372036854775808 ≤ s) (h2 : s ≤ 9223372036854775807) (h3 : -9223372036854775808 ≤ n) (h4 : n ≤ 9223372036854775807) (h5 : -9223372036854775808 ≤ b) (h6 : b ≤ 9223372036854775807) :
    Calls Try.prog 8 #[.int .i64 n, .int .i64 b, .int .i64 s] w fun e w' => e = .returned (.tuple #[.int .i64 (downV n b s), .bool (downB n b s)]) ∧ w = w' := by
  by_cases hs : 0 < s
  · have hn := lft_bd n s hs
    have hb := lft_bd b s hs
    have ho := over_of n b s hs
    have hr := room_of n h3 h4
    by_cases hx : -9223372036854775808 ≤ n - over n b s
    · have HV := Lib.hid (downV_yes n b s hs hx)
      have HB := Lib.hid (downB_yes n b s hs hx)
      rcases ho with ⟨hc, ho⟩ | ⟨hc, ho⟩
      · rw [ho] at hx HV
        have hk : lft n s - lft b s ≤ IntKind.u64.wrap (IntKind.u64.wrap n - 9223372036854775808) := by rw [hr]; omega
        clear ho hr
        go_enter Try.func8, Try.ntmps8
        go_wp2_with (go_at_call 10; refine (refleft_any _ _ _ (by omega) (by omega) (by omega) (by omega)).mono ?_; rintro e w' ⟨rfl, rfl⟩)
        go_ret2
        exact ⟨ret_down HV.out.symm HB.out.symm, rfl⟩
      · have ho' : over n b s = s - (lft b s - lft n s) := by omega
        rw [ho'] at hx HV
        have hk : s - (lft b s - lft n s) ≤ IntKind.u64.wrap (IntKind.u64.wrap n - 9223372036854775808) := by rw [hr]; omega
        clear ho hr ho'
        go_enter Try.func8, Try.ntmps8
        go_wp2_with (go_at_call 10; refine (refleft_any _ _ _ (by omega) (by omega) (by omega) (by omega)).mono ?_; rintro e w' ⟨rfl, rfl⟩)
        go_ret2
        exact ⟨ret_down HV.out.symm HB.out.symm, rfl⟩
    · have HV := Lib.hid (downV_low n b s hx)
      have HB := Lib.hid (downB_low n b s hx)
      rcases ho with ⟨hc, ho⟩ | ⟨hc, ho⟩
      · rw [ho] at hx
        have hk : IntKind.u64.wrap (IntKind.u64.wrap n - 9223372036854775808) < lft n s - lft b s := by rw [hr]; omega
        clear ho hr hx
        go_enter Try.func8, Try.ntmps8
        go_wp2_with (go_at_call 10; refine (refleft_any _ _ _ (by omega) (by omega) (by omega) (by omega)).mono ?_; rintro e w' ⟨rfl, rfl⟩)
        go_ret2
        exact ⟨ret_down HV.out.symm HB.out.symm, rfl⟩
      · have ho' : over n b s = s - (lft b s - lft n s) := by omega
        rw [ho'] at hx
        have hk : IntKind.u64.wrap (IntKind.u64.wrap n - 9223372036854775808) < s - (lft b s - lft n s) := by rw [hr]; omega
        clear ho hr ho' hx
        go_enter Try.func8, Try.ntmps8
        go_wp2_with (go_at_call 10; refine (refleft_any _ _ _ (by omega) (by omega) (by omega) (by omega)).mono ?_; rintro e w' ⟨rfl, rfl⟩)
        go_ret2
        exact ⟨ret_down HV.out.symm HB.out.symm, rfl⟩
  · have HV := Lib.hid (downV_no n b s hs)
    have HB := Lib.hid (downB_no n b s hs)
    go_enter Try.func8, Try.ntmps8
    go_wp2
    go_ret2
    exact ⟨ret_down HV.out.symm HB.out.symm, rfl⟩
end Go.Proofs.Ytbndlpmhbocbjaa.fits
