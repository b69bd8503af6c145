/- The contract of the reference's Digits: the decimal numeral. -/
import Derived.Test.YtfmelhpegcpbiaaGreatDoorMa
namespace Go.Proofs.YtfmelhpegcpbiaaGreatDoor.num
open Go.ChangeShapes Go.WideShapes Go.ChangeAt Go.RowKit Go.Lib

theorem nDigits_le (u : Nat) (hu : u < 18446744073709551616) : nDigits u ≤ 20 := by
  by_cases h : u = 0
  · subst h; rw [nDigits_small (by omega)]; omega
  · have := numDigits_eq u (by omega) hu
    split at this <;> omega

set_option maxHeartbeats 600000 in
set_option maxRecDepth 100000 in
theorem digits_any (u : Nat) (hu : u < 18446744073709551616) (w : World) :
    Calls Tryz.prog 93 #[.int .u64 u] w fun e w' => e = .returned (.string ⟨(decDigits u).toArray⟩) ∧ Below w.heap.size w w' := by
  go_enter Tryz.func93, Tryz.ntmps93
  go_wp2
  go_loopw [0, 3] (fun n s wr => ∃ m : Nat, m ≤ u ∧ n = .int .u64 m ∧ ∃ x : List UInt8, s = .string ⟨x.toArray⟩ ∧ Hid (decDigits u = decDigits m ++ x) ∧ Below w.heap.size w wr) (fun n _ _ => (intOf n).toNat)
  case atStart => exact ⟨u, Nat.le_refl _, rfl, [], rfl, Lib.hid (by simp), Below.refl _ _⟩
  case round =>
    obtain ⟨m, hm, rfl, x, rfl, hx, hb⟩ := hrel
    have hxl : x.length ≤ 20 := by
      have h1 := congrArg List.length hx.out
      have h2 := nDigits_le u hu
      rw [List.length_append, decDigits_length] at h1
      omega
    by_cases hlt : 9 < m
    · obtain ⟨c, hc, hcn⟩ := byte_of (48 + m % 10) (by omega)
      have hcv := conv1 wr (48 + (m : Int) % 10) c (by omega)
      have HD : Hid (decDigits u = decDigits (m / 10) ++ (c :: x)) := Lib.hid (by rw [hx.out, hc, decDigits, dif_neg (by omega), List.append_assoc]; rfl)
      clear hc hcn
      go_wp2
      go_roundw
      case rel => exact ⟨m / 10, by omega, by go_num, c :: x, rfl, HD, (hb.alloc (by simpa using hb.size) _)⟩
      case measure => simp [intOf]; omega
    · obtain ⟨c, hc, hcn⟩ := byte_of (48 + m) (by omega)
      have hcv := conv1 wr (48 + (m : Int)) c (by omega)
      have HD : Hid (decDigits u = c :: x) := Lib.hid (by rw [hx.out, hc, decDigits, dif_pos (by omega)]; rfl)
      clear hc hcn
      go_wp2
      go_ret
      exact ⟨by rw [HD.out]; rfl, (hb.alloc (by simpa using hb.size) _)⟩

theorem digits_at (a : Int) (u : Nat) (ha : a = u) (hu : u < 18446744073709551616) (w : World) :
    Calls Tryz.prog 93 #[.int .u64 a] w fun e w' => e = .returned (.string ⟨(decDigits u).toArray⟩) ∧ Below w.heap.size w w' := by
  subst ha; exact digits_any u hu w
end Go.Proofs.YtfmelhpegcpbiaaGreatDoor.num
