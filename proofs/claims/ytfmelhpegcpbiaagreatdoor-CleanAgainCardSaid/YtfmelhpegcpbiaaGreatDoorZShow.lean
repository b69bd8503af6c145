/- The contracts of number.Show and of the reference's Show: both return what 'showS' says. -/
import Derived.Test.YtfmelhpegcpbiaaGreatDoorMa
import Derived.Test.YtfmelhpegcpbiaaGreatDoorZFmtU
import Derived.Test.YtfmelhpegcpbiaaGreatDoorZDigits
import Derived.Outline
import Derived.Deep.DeepCutAuto
namespace Go.Proofs.YtfmelhpegcpbiaaGreatDoor.num
open Go.ChangeShapes Go.WideShapes Go.ChangeAt Go.RowKit Go.Lib

set_option maxHeartbeats 1000000 in
set_option maxRecDepth 100000 in
theorem refshow_any (n : Int) (h1 : -9223372036854775808 ≤ n) (h2 : n ≤ 9223372036854775807) (w : World) :
    Calls Tryz.prog 53 #[.int .i64 n] w fun e w' => e = .returned (.string ⟨(showS n).toArray⟩) ∧ Below w.heap.size w w' := by
  obtain ⟨u, hu⟩ : ∃ u, u = n.natAbs := ⟨_, rfl⟩
  obtain ⟨sg, hsg⟩ : ∃ sg : List UInt8, sg = if n < 0 then [45] else [] := ⟨_, rfl⟩
  have hsl : sg.length ≤ 1 := by rw [hsg]; split <;> simp
  have hu64 : u ≤ 9223372036854775808 := by omega
  have HS : Hid (showS n = if u % 1000000 = 0 then sg ++ decDigits (u / 1000000) else (sg ++ decDigits (u / 1000000)) ++ 46 :: frac (u % 1000000)) := by
    unfold showS; rw [← hu, ← hsg]; rfl
  have hdl := nDigits_le (u / 1000000) (by omega)
  rw [← decDigits_length] at hdl
  have hul : u < 18446744073709551616 := by omega
  have hd := digits_at ((u : Int) / 1000000) (u / 1000000) (by omega) (by omega) w
  have HU := Lib.hid hu
  have HSG := Lib.hid hsg
  clear hu hsg
  go_enter Tryz.func53, Tryz.ntmps53
  go_upto_if 9 with fail
  go_cut [3, 4] (fun s3 s4 wx => s3 = .string ⟨sg.toArray⟩ ∧ s4 = .int .u64 u ∧ w = wx)
  case first =>
    by_cases hn : n < 0
    · have e1 : sg = [45] := by rw [HSG.out, if_pos hn]
      have H1 := Lib.hid e1
      clear e1
      go_wp2
      go_meet
      exact ⟨by rw [H1.out], congrArg (Value.int .u64) (by have := HU.out; omega), rfl⟩
    · have e1 : sg = [] := by rw [HSG.out, if_neg hn]
      have H1 := Lib.hid e1
      have e2 : IntKind.u64.wrap n = (u : Int) := by
        have := HU.out
        rw [IntKind.wrap_u64]; omega
      clear e1
      go_wp2
      go_meet
      exact ⟨by rw [H1.out], rfl, rfl⟩
  case rest =>
    obtain ⟨rfl, rfl, rfl⟩ := hcut
    go_wp2_with fail
    refine hd.mono ?_
    rintro e w' ⟨rfl, hB⟩
    clear hd
    obtain ⟨dg, hdg⟩ : ∃ dg, dg = decDigits (u / 1000000) := ⟨_, rfl⟩
    rw [← hdg] at hdl HS ⊢
    clear hdg
    obtain ⟨r, hr⟩ : ∃ r, r = u % 1000000 := ⟨_, rfl⟩
    have er : (u : Int) % 1000000 = (r : Int) := by omega
    rw [← hr] at HS
    have hrl : r < 1000000 := by omega
    have ER := Lib.hid er
    clear hr er
    by_cases hr0 : r = 0
    · have t0 : ((u : Int) % 1000000 == 0) = true := by have := ER.out; simp; omega
      have HQ : Hid (showS n = sg ++ dg) := Lib.hid (by rw [HS.out, if_pos hr0])
      go_wp2_with fail
      go_ret
      exact ⟨by rw [HQ.out]; simp, hB⟩
    · have t0 : ((u : Int) % 1000000 == 0) = false := by have := ER.out; simp; omega
      have HQ : Hid (showS n = (sg ++ dg) ++ 46 :: frL 6 r) := Lib.hid (by rw [HS.out, if_neg hr0, frac_eq r hrl])
      clear HS
      go_wp2_with fail
      go_loopw [3, 5] (fun s3 s5 wr => ∃ (k q : Nat) (dn : List UInt8), k ≤ 6 ∧ q < 1000000 ∧ s3 = .string ⟨dn.toArray⟩ ∧ s5 = .int .u64 q ∧ dn.length + k ≤ 28 ∧ Hid (showS n = dn ++ frL k q ∧ ∃ t, q = t * 10 ^ (6 - k)) ∧ Below w.heap.size w wr) (fun s3 _ _ => 30 - strLen s3)
      case atStart =>
        refine ⟨6, r, sg ++ (dg ++ [46]), by omega, hrl, rfl, by rw [ER.out], ?_, Lib.hid ⟨?_, r, by simp⟩, hB⟩
        · simp; omega
        · rw [HQ.out]; simp
      case round =>
        obtain ⟨k, q, dn, hk, hq, rfl, rfl, hdn, hh, hb⟩ := hrel
        by_cases hq0 : q = 0
        · have HF : Hid (showS n = dn) := Lib.hid (by
            rw [hh.out.1]
            cases k with
            | zero => simp [frL]
            | succ k => simp [frL, hq0])
          go_wp2_with fail
          go_ret
          exact ⟨by rw [HF.out]; rfl, hb⟩
        · cases k with
          | zero => exact absurd (dvd_end q hq hh.out.2) hq0
          | succ k =>
            have hfr : showS n = dn ++ (UInt8.ofNat (48 + q / 100000) :: frL k (q % 100000 * 10)) := by
              rw [hh.out.1, frL, if_neg hq0]
            have hdv := dvd_step k q (by omega) hh.out.2
            obtain ⟨c, hc, _⟩ := byte_of (48 + q / 100000) (by omega)
            have hdd : decDigits (q / 100000) = [c] := by rw [hc, decDigits_one (by omega)]
            rw [← hc] at hfr
            have HF := Lib.hid (And.intro hfr hdv)
            have hcall := digits_at ((q : Int) / 100000) (q / 100000) (by omega) (by omega) wr
            rw [hdd] at hcall
            clear hfr hdv hdd hc hh
            go_wp2_with fail
            refine hcall.mono ?_
            rintro e w2 ⟨rfl, hb2⟩
            clear hcall
            go_wp2_with fail
            go_roundw
            case rel => exact ⟨k, q % 100000 * 10, dn ++ [c], by omega, by omega, rfl, by go_num, by simp; omega, Lib.hid ⟨by rw [HF.out.1]; simp, HF.out.2⟩, hb.trans (hb2.mono hb.size)⟩
            case measure => simp [strLen_mk]; omega
theorem strip_trimB (l : List UInt8) : trimRightB l 48 = strip l := by rw [← strip_trim, trimRightS_one]

set_option maxHeartbeats 1000000 in
set_option maxRecDepth 100000 in
theorem show_any (n : Int) (h1 : -9223372036854775808 ≤ n) (h2 : n ≤ 9223372036854775807) (w : World) (hG : G w) :
    Calls Tryz.prog 51 #[.int .i64 n] w fun e w' => e = .returned (.string ⟨(showS n).toArray⟩) ∧ Below w.heap.size w w' := by
  obtain ⟨u, hu⟩ : ∃ u, u = n.natAbs := ⟨_, rfl⟩
  obtain ⟨sg, hsg⟩ : ∃ sg : List UInt8, sg = if n < 0 then [45] else [] := ⟨_, rfl⟩
  have hsl : sg.length ≤ 1 := by rw [hsg]; split <;> simp
  have hu64 : u ≤ 9223372036854775808 := by omega
  have HS : Hid (showS n = if u % 1000000 = 0 then sg ++ decDigits (u / 1000000) else (sg ++ decDigits (u / 1000000)) ++ 46 :: frac (u % 1000000)) := by
    unfold showS; rw [← hu, ← hsg]; rfl
  have hdl := nDigits_le (u / 1000000) (by omega)
  rw [← decDigits_length] at hdl
  have hul : u < 18446744073709551616 := by omega
  have hd := fmtu_at ((u : Int) / 1000000) (u / 1000000) (by omega) (by omega) w hG
  have HU := Lib.hid hu
  have HSG := Lib.hid hsg
  clear hu hsg
  go_enter Tryz.func51, Tryz.ntmps51
  go_upto_if 10 with fail
  go_cut [3, 4] (fun s3 s4 wx => s3 = .string ⟨sg.toArray⟩ ∧ s4 = .int .u64 u ∧ w = wx)
  case first =>
    by_cases hn : n < 0
    · have e1 : sg = [45] := by rw [HSG.out, if_pos hn]
      have H1 := Lib.hid e1
      have e2 : IntKind.u64.wrap (-IntKind.u64.wrap n) = (u : Int) := by
        have := HU.out
        rw [IntKind.wrap_u64, IntKind.wrap_u64]; omega
      clear e1
      go_wp2
      go_meet
      exact ⟨by rw [H1.out], rfl, rfl⟩
    · have e1 : sg = [] := by rw [HSG.out, if_neg hn]
      have H1 := Lib.hid e1
      have e2 : IntKind.u64.wrap n = (u : Int) := by
        have := HU.out
        rw [IntKind.wrap_u64]; omega
      clear e1
      go_wp2
      go_meet
      exact ⟨by rw [H1.out], rfl, rfl⟩
  case rest =>
    obtain ⟨rfl, rfl, rfl⟩ := hcut
    go_wp2_with fail
    refine hd.mono ?_
    rintro e w' ⟨rfl, hB⟩
    clear hd
    obtain ⟨dg, hdg⟩ : ∃ dg, dg = decDigits (u / 1000000) := ⟨_, rfl⟩
    rw [← hdg] at hdl HS ⊢
    clear hdg
    obtain ⟨r, hr⟩ : ∃ r, r = u % 1000000 := ⟨_, rfl⟩
    have er : (u : Int) % 1000000 = (r : Int) := by omega
    rw [← hr] at HS
    have hrl : r < 1000000 := by omega
    have ER := Lib.hid er
    clear hr er
    by_cases hr0 : r = 0
    · have t0 : ((u : Int) % 1000000 == 0) = true := by have := ER.out; simp; omega
      have HQ : Hid (showS n = sg ++ dg) := Lib.hid (by rw [HS.out, if_pos hr0])
      go_wp2_with fail
      go_ret
      exact ⟨by rw [HQ.out]; rfl, hB⟩
    · have t0 : ((u : Int) % 1000000 == 0) = false := by have := ER.out; simp; omega
      have hx : (decDigits (1000000 + r)).length = 7 := by rw [decDigits_length, nDigits7 r hrl]
      have HQ : Hid (showS n = (sg ++ dg) ++ 46 :: strip ((decDigits (1000000 + r)).drop 1)) := Lib.hid (by rw [HS.out, if_neg hr0]; rfl)
      have hd := fmtu_at (1000000 + (u : Int) % 1000000) (1000000 + r) (by have := ER.out; omega) (by omega) w' (hG.below hB)
      obtain ⟨x, hxx⟩ : ∃ x, x = decDigits (1000000 + r) := ⟨_, rfl⟩
      rw [← hxx] at hx HQ hd
      have hx1 : 1 ≤ x.length := by omega
      have hx2 : x.length ≤ 7 := by omega
      rw [List.drop_one] at HQ
      have hsl2 : (strip x.tail).length ≤ 6 := by have := strip_le x.tail; simp at this; omega
      clear HS hx hxx
      go_wp2_with fail
      refine hd.mono ?_
      rintro e w2 ⟨rfl, hB2⟩
      clear hd
      go_wp2_with fail
      refine (Tryz.strings_TrimRight_one _ 48 (by decide) _ (by rw [bsize, List.length_tail]; omega)).mono ?_
      rintro e w3 ⟨rfl, rfl⟩
      have hst : (⟨(trimRightB (⟨x.tail.toArray⟩ : ByteArray).data.toList 48).toArray⟩ : ByteArray) = ⟨(strip x.tail).toArray⟩ := by rw [strip_trimB]
      rw [hst]
      clear hst
      go_wp2_with fail
      go_ret
      exact ⟨by rw [HQ.out]; simp, below_trans hB hB2⟩
end Go.Proofs.YtfmelhpegcpbiaaGreatDoor.num
