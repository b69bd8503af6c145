/- A part of the proofs: lemmas and contracts. -/
import Derived.Lib.Hide
import Derived.ProofKit
import Derived.WalkKit
import Derived.Test.YtkhlfggnjcbniaaGreatDoorRows
set_option maxHeartbeats 12800000
set_option maxRecDepth 1000000
namespace Go.Proofs.YtkhlfggnjcbniaaGreatDoor.fits
open Go.ChangeShapes Go.WideShapes Go.ChangeAt Go.RowKit

def lft (n s : Int) : Int := n % s

theorem lft_of (n s : Int) (hs : 0 < s) : (0 ≤ n.tmod s ∧ lft n s = n.tmod s ∧ (0 ≤ n ∨ n.tmod s = 0)) ∨ (n.tmod s < 0 ∧ n < 0 ∧ lft n s = n.tmod s + s) := by
 unfold lft
 have h0 := Int.tmod_eq_emod (a := n) (b := s)
 have h1 := Int.emod_nonneg n (show s ≠ 0 by omega)
 have h2 := Int.emod_lt_of_pos n hs
 have h3 : ((s.natAbs : Nat) : Int) = s := by omega
 split at h0
 ·left
  rename_i hh
  refine ⟨by omega, by omega, ?_⟩
  rcases hh with hh | hh
  ·left; exact hh
  ·right; rw [Int.emod_eq_zero_of_dvd hh] at h0; omega
 ·right; rename_i hh; refine ⟨by omega, ?_, by omega⟩; omega

theorem lft_bd (n s : Int) (hs : 0 < s) : 0 ≤ lft n s ∧ lft n s < s :=
 ⟨Int.emod_nonneg _ (by omega), Int.emod_lt_of_pos _ hs⟩

theorem ret_int {k : IntKind} {a b : Int} (h : a = b) : Ending.returned (.int k a) = .returned (.int k b) := by rw [h]

theorem refleft_any (n s : Int) (w : World) (hs : 0 < s) (h2 : s ≤ 9223372036854775807) (h3 : -9223372036854775808 ≤ n) (h4 : n ≤ 9223372036854775807) :
  Calls Tryz.prog 210 #[.int .i64 n, .int .i64 s] w fun e w' => e = .returned (.int .i64 (lft n s)) ∧ w = w' := by
 by_cases h0 : 0 ≤ n
 ·go_enter Tryz.func210, Tryz.ntmps210
  go_wp2
  go_ret
  exact ⟨rfl, rfl⟩
 ·have hl := lft_of n s hs
  have hb := lft_bd n s hs
  by_cases hz : n.tmod s = 0
  ·have he : lft n s = 0 := by omega
   have H := Lib.hid he; clear he hl
   have hq : (n.tmod s == 0) = true := by simpa using hz
   clear hz
   go_enter Tryz.func210, Tryz.ntmps210
   go_wp2
   go_ret
   exact ⟨ret_int H.out.symm, rfl⟩
  ·have htn : n.tmod s < 0 := by omega
   have he : lft n s = s + n.tmod s := by omega
   have hx : -9223372036854775808 ≤ s + n.tmod s := by omega
   have hy : s + n.tmod s ≤ 9223372036854775807 := by omega
   have H := Lib.hid he; clear he hl
   have hq : (n.tmod s == 0) = false := by simpa using hz
   clear hz
   go_enter Tryz.func210, Tryz.ntmps210
   go_wp2
   go_ret
   exact ⟨ret_int H.out.symm, rfl⟩


theorem left_any (n s : Int) (w : World) (hs : 0 < s) (h2 : s ≤ 9223372036854775807) (_h3 : -9223372036854775808 ≤ n) (_h4 : n ≤ 9223372036854775807) :
  Calls Tryz.prog 189 #[.int .i64 n, .int .i64 s] w fun e w' => e = .returned (.int .i64 (lft n s)) ∧ w = w' := by
 have hl := lft_of n s hs
 have hb := lft_bd n s hs
 rcases hl with ⟨hl, he, _⟩ | ⟨hl, hn, he⟩
 ·have H := Lib.hid he; clear he
  go_enter Tryz.func189, Tryz.ntmps189
  go_wp2
  go_ret
  exact ⟨ret_int H.out.symm, rfl⟩
 ·have hx : -9223372036854775808 ≤ n.tmod s + s := by omega
  have hy : n.tmod s + s ≤ 9223372036854775807 := by omega
  have H := Lib.hid he; clear he
  go_enter Tryz.func189, Tryz.ntmps189
  go_wp2
  go_ret
  exact ⟨ret_int H.out.symm, rfl⟩

def fitsB (n b s : Int) : Bool := decide (0 < s) && (lft n s == lft b s)

theorem fitsB_no (n b s : Int) (h : ¬ 0 < s) : fitsB n b s = false := by
 unfold fitsB; rw [decide_eq_false h]; rfl

theorem ret_bool {a b : Bool} (h : a = b) : Ending.returned (.bool a) = .returned (.bool b) := by rw [h]

theorem fits_any (n b s : Int) (w : World) (h1 : -9223372036854775808 ≤ s) (h2 : s ≤ 9223372036854775807) (h3 : -9223372036854775808 ≤ n) (h4 : n ≤ 9223372036854775807) (h5 : -9223372036854775808 ≤ b) (h6 : b ≤ 9223372036854775807) :
  Calls Tryz.prog 101 #[.int .i64 n, .int .i64 b, .int .i64 s] w fun e w' => e = .returned (.bool (fitsB n b s)) ∧ w = w' := by
 by_cases hs : 0 < s
 ·go_enter Tryz.func101, Tryz.ntmps101
  go_wp2_with (go_at_call 189; refine (left_any _ _ _ (by omega) (by omega) (by omega) (by omega)).mono ?_; rintro e w' ⟨rfl, rfl⟩)
  go_ret
  exact ⟨ret_bool (by simp [fitsB, hs]), rfl⟩
 ·go_enter Tryz.func101, Tryz.ntmps101
  go_wp2
  go_ret
  exact ⟨ret_bool (fitsB_no n b s (by omega)).symm, rfl⟩

theorem reffits_any (n b s : Int) (w : World) (h1 : -9223372036854775808 ≤ s) (h2 : s ≤ 9223372036854775807) (h3 : -9223372036854775808 ≤ n) (h4 : n ≤ 9223372036854775807) (h5 : -9223372036854775808 ≤ b) (h6 : b ≤ 9223372036854775807) :
  Calls Tryz.prog 120 #[.int .i64 n, .int .i64 b, .int .i64 s] w fun e w' => e = .returned (.bool (fitsB n b s)) ∧ w = w' := by
 by_cases hs : 0 < s
 ·go_enter Tryz.func120, Tryz.ntmps120
  go_wp2_with (go_at_call 210; refine (refleft_any _ _ _ (by omega) (by omega) (by omega) (by omega)).mono ?_; rintro e w' ⟨rfl, rfl⟩)
  go_ret
  exact ⟨ret_bool (by simp [fitsB, hs]), rfl⟩
 ·go_enter Tryz.func120, Tryz.ntmps120
  go_wp2
  go_ret
  exact ⟨ret_bool (fitsB_no n b s (by omega)).symm, rfl⟩

end Go.Proofs.YtkhlfggnjcbniaaGreatDoor.fits
