/- The contract of the reference's Left: what a division leaves, from 0 on, for every step above 0. -/
import Derived.Test.YtbaloklcpfjmeaaGreatDoorRows
import Derived.WalkKit
import Derived.ProofKit
import Derived.Lib.Hide
namespace Go.Proofs.YtbaloklcpfjmeaaGreatDoor.fits
open Go.ChangeShapes Go.WideShapes Go.ChangeAt Go.RowKit

/-- what a division leaves, from 0 on -/
def lft (n s : Int) : Int := n % s

theorem lft_of (n s : Int) (hs : 0 < s) : (0 ≤ n.tmod s ∧ lft n s = n.tmod s ∧ (0 ≤ n ∨ n.tmod s = 0)) ∨ (n.tmod s < 0 ∧ n < 0 ∧ lft n s = n.tmod s + s) := by
  unfold lft
  have h0 := Int.tmod_eq_emod (a := n) (b := s)
  have h1 := Int.emod_nonneg n (show s ≠ 0 by omega)
  have h2 := Int.emod_lt_of_pos n hs
  have h3 : ((s.natAbs : Nat) : Int) = s := by omega
  split at h0
  · left
    rename_i hh
    refine ⟨by omega, by omega, ?_⟩
    rcases hh with hh | hh
    · left; exact hh
    · right; rw [Int.emod_eq_zero_of_dvd hh] at h0; omega
  · right; rename_i hh; refine ⟨by omega, ?_, by omega⟩; omega

theorem lft_bd (n s : Int) (hs : 0 < s) : 0 ≤ lft n s ∧ lft n s < s :=
  ⟨Int.emod_nonneg _ (by omega), Int.emod_lt_of_pos _ hs⟩

theorem ret_int {k : IntKind} {a b : Int} (h : a = b) : Ending.returned (.int k a) = .returned (.int k b) := by rw [h]

theorem refleft_any (n s : Int) (w : World) (hs : 0 < s) (h2 : s ≤ 9223372036854775807) (h3 : -9223372036854775808 ≤ n) (h4 : n ≤ 9223372036854775807) :
    Calls Tryz.prog 22 #[.int .i64 n, .int .i64 s] w fun e w' => e = .returned (.int .i64 (lft n s)) ∧ w = w' := by
  by_cases h0 : 0 ≤ n
  · go_enter Tryz.func22, Tryz.ntmps22
    go_wp2
    go_ret
    exact ⟨rfl, rfl⟩
  · have hl := lft_of n s hs
    have hb := lft_bd n s hs
    by_cases hz : n.tmod s = 0
    · have he : lft n s = 0 := by omega
      have H := Lib.hid he; clear he hl
      have hq : (n.tmod s == 0) = true := by simpa using hz
      clear hz
      go_enter Tryz.func22, Tryz.ntmps22
      go_wp2
      go_ret
      exact ⟨ret_int H.out.symm, rfl⟩
    · have htn : n.tmod s < 0 := by omega
      have he : lft n s = s + n.tmod s := by omega
      have hx : -9223372036854775808 ≤ s + n.tmod s := by omega
      have hy : s + n.tmod s ≤ 9223372036854775807 := by omega
      have H := Lib.hid he; clear he hl
      have hq : (n.tmod s == 0) = false := by simpa using hz
      clear hz
      go_enter Tryz.func22, Tryz.ntmps22
      go_wp2
      go_ret
      exact ⟨ret_int H.out.symm, rfl⟩

end Go.Proofs.YtbaloklcpfjmeaaGreatDoor.fits
