/- A part of the proofs: lemmas and contracts. -/
import Derived.WalkSpells
import Derived.Test.YtkhlfggnjcbniaaGreatDoorShelf
import Derived.Test.YtkhlfggnjcbniaaGreatDoorP1
set_option maxHeartbeats 12800000
set_option maxRecDepth 1000000
namespace Go.Proofs.YtkhlfggnjcbniaaGreatDoor.stp
open Go.ChangeShapes Go.WideShapes Go.ChangeAt Go.RowKit Go.Lib

theorem div64_pure (hi lo : Nat) (_h : hi < 1000000) (_hl : lo < 18446744073709551616) :
  (hi * 17592186044416 + lo / 1048576) / 4096000000 * 4294967296 + ((hi * 17592186044416 + lo / 1048576) % 4096000000 * 4294967296 + lo % 1048576 * 4096) / 4096000000 = (hi * 18446744073709551616 + lo) / 1000000 := by
 omega

theorem div64_int (hi lo : Nat) (h : hi < 1000000) (hl : lo < 18446744073709551616) (a b u c q r z q0 : Int) (ha : a = hi) (hb : b = lo) (hu : u = a * 17592186044416 + b / 1048576) (hc : c = b % 1048576 * 4096)
  (hq : q = u / 4096000000) (hr : r = u % 4096000000) (hz : z = r * 4294967296 + c) (hq0 : q0 = z / 4096000000) : q * 4294967296 + q0 = (((hi * 18446744073709551616 + lo) / 1000000 : Nat) : Int) := by
 rw [← div64_pure hi lo h hl]
 subst hq0 hz hq hr hc hu ha hb
 simp only [Int.natCast_add, Int.natCast_mul, Int.natCast_ediv, Int.natCast_emod]
 rfl
theorem or_fact (a b : Int) (a1 : 0 ≤ a) (a2 : a < 1000000) (b1 : 0 ≤ b) (b2 : b < 18446744073709551616) : bits .or .u64 (a * 17592186044416) (b / 1048576) = a * 17592186044416 + b / 1048576 := by
 obtain ⟨x, hx⟩ : ∃ x : Nat, a * 17592186044416 = ((x * 17592186044416 : Nat) : Int) := ⟨a.toNat, by omega⟩
 obtain ⟨y, hy⟩ : ∃ y : Nat, b / 1048576 = (y : Int) := ⟨(b / 1048576).toNat, by omega⟩
 have hyl : y < 17592186044416 := by omega
 have hxl : x * 17592186044416 < 18446744073709551616 := by omega
 rw [hx, hy, bits_or_u64_nat _ _ hxl (by omega)]
 have := Nat.two_pow_add_eq_or_of_lt (i := 44) (b := y) hyl x
 rw [show x * 17592186044416 = 2 ^ 44 * x from by rw [Nat.mul_comm]]
 omega
theorem and_fact (b : Int) (_b1 : 0 ≤ b) : bits .and .u64 (b % 1048576 * 17592186044416) 4294967295 = 0 := by
 obtain ⟨x, hx⟩ : ∃ x : Nat, b % 1048576 * 17592186044416 = ((x : Nat) : Int) := ⟨(b % 1048576 * 17592186044416).toNat, by omega⟩
 have hxl : x < 18446744073709551616 := by omega
 have h := bits_and_u64_nat x 4294967295 hxl (by decide)
 have e : x &&& 4294967295 = x % 4294967296 := Nat.and_two_pow_sub_one_eq_mod x 32
 rw [e] at h
 rw [hx]
 refine h.trans ?_
 omega
theorem u64i {a b : Int} (h : a = b) : Value.int .u64 a = .int .u64 b := by rw [h]

theorem lz_any (w : World) : Calls Tryz.prog 269 #[.int .u64 1000000] w fun e w' => e = .returned (.int .i64 44) ∧ w = w' := by
 have h := fun w => Tryz.bits_Len64 1000000 w (by decide) (by decide)
 have e : ((Lib.bitLen (Int.toNat 1000000) : Nat) : Int) = 20 := by decide +kernel
 rw [e] at h
 go_enter Tryz.func269, Tryz.ntmps269
 go_wp2_with fail
 refine (h _).mono ?_
 rintro e w' ⟨rfl, rfl⟩
 go_wp2_with fail
 go_ret
 exact ⟨rfl, rfl⟩

theorem div64_any (hi lo : Nat) (h : hi < 1000000) (hl : lo < 18446744073709551616) (w : World) :
  Calls Tryz.prog 188 #[.int .u64 hi, .int .u64 lo, .int .u64 1000000] w fun e w' => ∃ r : Int, e = .returned (.tuple #[.int .u64 (((hi * 18446744073709551616 + lo) / 1000000 : Nat) : Int), .int .u64 r]) ∧ Below w.heap.size w w' := by
 have hz := fun w => lz_any w
 by_cases h0 : hi = 0
 ·subst h0
  go_enter Tryz.func188, Tryz.ntmps188
  go_wp2_with fail
  go_region
  all_goals
   go_wp2_with fail
   go_ret2
   exact ⟨_, by rw [show (0 * 18446744073709551616 + lo) / 1000000 = lo / 1000000 from by omega]; rfl, (Below.refl _ _).drew⟩
 ·have t0 : ((hi : Int) == 0) = false := by simp; omega
  obtain ⟨a, ha⟩ : ∃ a : Int, a = hi := ⟨_, rfl⟩
  obtain ⟨b, hb⟩ : ∃ b : Int, b = lo := ⟨_, rfl⟩
  have a1 : 0 ≤ a := by omega
  have a2 : a < 1000000 := by omega
  have b1 : 0 ≤ b := by omega
  have b2 : b < 18446744073709551616 := by omega
  rw [← ha, ← hb]
  rw [← ha] at t0
  have HA := Lib.hid (And.intro ha (And.intro hb (And.intro h hl)))
  clear ha hb h hl h0
  go_enter Tryz.func188, Tryz.ntmps188
  go_wp2_with fail
  refine (hz _).mono ?_
  rintro e w' ⟨rfl, rfl⟩
  clear hz
  go_upto_region 10 with fail
  go_cut [2, 8, 9, 10] (fun s2 s8 s9 s10 wx => s2 = .int .u64 17592186044416000000 ∧ s8 = .int .u64 44 ∧ s9 = .int .u64 4096000000 ∧ s10 = .int .u64 0 ∧ w = wx)
  case first =>
   go_wp2_with fail
   go_meet
   exact ⟨rfl, rfl, rfl, rfl, rfl⟩
  case rest =>
  obtain ⟨rfl, rfl, rfl, rfl, rfl⟩ := hcut
  go_upto_region 11 with fail
  go_cut [11] (fun s11 wx => s11 = .int .u64 (a * 17592186044416 + b / 1048576) ∧ w = wx)
  case first =>
   have ho := or_fact a b a1 a2 b1 b2
   have HO := Lib.hid ho
   clear ho
   go_wp2_with fail
   go_meet
   exact ⟨u64i HO.out, rfl⟩
  case rest =>
  obtain ⟨rfl, rfl⟩ := hcut
  go_upto_region 13 with fail
  go_cut [12, 13] (fun s12 s13 wx => s12 = .int .u64 (b % 1048576 * 17592186044416) ∧ s13 = .int .u64 (b % 1048576 * 4096) ∧ w = wx)
  case first =>
   go_wp2_with fail
   go_meet
   exact ⟨u64i (by rw [IntKind.wrap_u64]; omega), u64i (by rw [IntKind.wrap_u64]; omega), rfl⟩
  case rest =>
  obtain ⟨rfl, rfl, rfl⟩ := hcut
  go_upto_region 14 with fail
  go_cut [14] (fun s14 wx => s14 = .int .u64 0 ∧ w = wx)
  case first =>
   have HO := Lib.hid (and_fact b b1)
   go_wp2_with fail
   go_meet
   exact ⟨u64i HO.out, rfl⟩
  case rest =>
  obtain ⟨rfl, rfl⟩ := hcut
  obtain ⟨u, hu⟩ : ∃ u, u = a * 17592186044416 + b / 1048576 := ⟨_, rfl⟩
  obtain ⟨c, hc⟩ : ∃ c, c = b % 1048576 * 4096 := ⟨_, rfl⟩
  rw [← hu, ← hc]
  have u1 : 0 ≤ u := by omega
  have u2 : u < 17592186044416000000 := by omega
  have c1 : 0 ≤ c := by omega
  have c2 : c < 4294967296 := by omega
  have HU := Lib.hid (And.intro hu hc)
  clear hu hc
  go_upto_region 15 with fail
  go_cut [15] (fun s15 wx => s15 = .int .u64 (u / 4096000000) ∧ w = wx)
  case first =>
   go_wp2_with fail
   go_meet
   exact ⟨rfl, rfl⟩
  case rest =>
  obtain ⟨rfl, rfl⟩ := hcut
  obtain ⟨q, hq⟩ : ∃ q, q = u / 4096000000 := ⟨_, rfl⟩
  obtain ⟨r, hr⟩ : ∃ r, r = u % 4096000000 := ⟨_, rfl⟩
  rw [← hq]
  have q1 : 0 ≤ q := by omega
  have q2 : q < 4294967296 := by omega
  have r1 : 0 ≤ r := by omega
  have r2 : r < 4096000000 := by omega
  have hqr : u = q * 4096000000 + r := by omega
  have HQ := Lib.hid (And.intro hq (And.intro hr hqr))
  clear hq hr hqr
  go_upto_region 16 with fail
  go_cut [16] (fun s16 wx => s16 = .int .u64 r ∧ w = wx)
  case first =>
   go_wp2_with fail
   go_meet
   exact ⟨u64i (by have := HQ.out.2.2; (try rw [IntKind.wrap_u64]); omega), rfl⟩
  case rest =>
  obtain ⟨rfl, rfl⟩ := hcut
  go_wp2_with fail
  go_loopw [15, 16] (fun s15 s16 wr => s15 = .int .u64 q ∧ s16 = .int .u64 r ∧ w = wr) (fun _ _ _ => 0)
  case atStart => exact ⟨rfl, rfl, rfl⟩
  case round =>
   obtain ⟨rfl, rfl, rfl⟩ := hrel
   go_upto_region 21 with fail
   go_cut [17] (fun s17 wx => s17 = .int .u64 (r * 4294967296 + c) ∧ w = wx)
   case first =>
    go_wp2_with fail
    go_meet
    exact ⟨u64i (by have := HQ.out.2.2; (try simp only [IntKind.wrap_u64]); omega), rfl⟩
   case rest =>
   obtain ⟨rfl, rfl⟩ := hcut
   obtain ⟨z, hz⟩ : ∃ z, z = r * 4294967296 + c := ⟨_, rfl⟩
   rw [← hz]
   have z1 : 0 ≤ z := by omega
   have z2 : z < 17592186044416000000 := by omega
   have HZ := Lib.hid hz
   clear hz
   go_upto_region 22 with fail
   go_cut [18] (fun s18 wx => s18 = .int .u64 (z / 4096000000) ∧ w = wx)
   case first =>
    go_wp2_with fail
    go_meet
    exact ⟨rfl, rfl⟩
   case rest =>
   obtain ⟨rfl, rfl⟩ := hcut
   obtain ⟨q0, hq0⟩ : ∃ q0, q0 = z / 4096000000 := ⟨_, rfl⟩
   obtain ⟨r0, hr0⟩ : ∃ r0, r0 = z % 4096000000 := ⟨_, rfl⟩
   rw [← hq0]
   have y1 : 0 ≤ q0 := by omega
   have y2 : q0 < 4294967296 := by omega
   have x1 : 0 ≤ r0 := by omega
   have x2 : r0 < 4096000000 := by omega
   have hqr0 : z = q0 * 4096000000 + r0 := by omega
   have HQ0 := Lib.hid (And.intro hq0 hqr0)
   clear hq0 hr0 hqr0
   go_upto_region 23 with fail
   go_cut [16] (fun s16 wx => s16 = .int .u64 r0 ∧ w = wx)
   case first =>
    go_wp2_with fail
    go_meet
    exact ⟨u64i (by have := HQ0.out.2; (try rw [IntKind.wrap_u64]); omega), rfl⟩
   case rest =>
   obtain ⟨rfl, rfl⟩ := hcut
   go_wp2_with fail
   go_loopw [18, 16] (fun s18 s16 wr => s18 = .int .u64 q0 ∧ s16 = .int .u64 r0 ∧ w = wr) (fun _ _ _ => 0)
   case atStart => exact ⟨rfl, rfl, rfl⟩
   case round =>
    obtain ⟨rfl, rfl, rfl⟩ := hrel
    have HF : Hid (q * 4294967296 + q0 = (((hi * 18446744073709551616 + lo) / 1000000 : Nat) : Int)) := Lib.hid (by
     exact div64_int hi lo HA.out.2.2.1 HA.out.2.2.2 a b u c q r z q0 HA.out.1 HA.out.2.1 HU.out.1 HU.out.2 HQ.out.1 HQ.out.2.1 HZ.out HQ0.out.1)
    go_wp2_with fail
    go_ret2
    exact ⟨_, by rw [← HF.out]; rfl, Below.refl _ _⟩
end Go.Proofs.YtkhlfggnjcbniaaGreatDoor.stp
