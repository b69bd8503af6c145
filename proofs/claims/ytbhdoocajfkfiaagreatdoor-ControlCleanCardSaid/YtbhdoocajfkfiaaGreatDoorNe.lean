/- strconv.FormatUint at base 10: the decimal numeral of every uint64. The contract of the reference's Digits: the decimal numeral. The contracts of number.Show and of the reference's Show: both return what 'showS' says. -/
import Derived.Test.YtbhdoocajfkfiaaGreatDoorMa
import Derived.Test.YtbhdoocajfkfiaaGreatDoorShelf
import Derived.Lib.Walk
import Derived.BigCall
import Derived.BigGuard
import Derived.Outline
import Derived.Deep.DeepCutAuto
namespace Go.Proofs.YtbhdoocajfkfiaaGreatDoor
open Go.ChangeShapes Go.WideShapes Go.ChangeAt Go.RowKit Go.Sort Go.Lib

theorem len54 : Tryz.prog.arrayLen 241 = 24 := by kernel_rfl
theorem arr24 : Tryz.prog.underlying 241 = some (.array 24 5) := by kernel_rfl
theorem zeros_hold (w : World) (nd : Nat) (hs : nd ≤ 24) : Holds (fun (b : UInt8) => Value.int .u8 (b.toNat : Int)) (w.alloc (.cells Lib.zeros24 241)) w.heap.size 0 (Array.replicate nd (0 : UInt8)) := fun j hj => by
  have hj' : j < nd := by simpa using hj
  refine ⟨?_, World.frozen?_alloc_new _ _ _ _⟩
  rw [World.cell?_alloc_new, zeros24_at _ (by omega), getElem!_pos _ j hj]
  simp
theorem putRow_below (w : World) (o : Obj) (dk : Array UInt8) (k : Nat) : Below w.heap.size w ((putRow (fun (b : UInt8) => Value.int .u8 (b.toNat : Int)) (w.alloc o) w.heap.size 0 dk).drewN k) := by
  refine below_drewN (((Below.refl w.heap.size w).alloc (Nat.le_refl _) o).trans (⟨rfl, rfl, rfl, ?_, fun i hi => ?_⟩ : Below w.heap.size (w.alloc o) (putRow (fun (b : UInt8) => Value.int .u8 (b.toNat : Int)) (w.alloc o) w.heap.size 0 dk))) k
  · simp [putRow, mapBlock]
  · simp only [putRow, mapBlock, Array.getElem?_modify]
    rw [if_neg (by omega)]

set_option maxHeartbeats 1600000 in
set_option maxRecDepth 100000 in
theorem ifmtu_any (u : Nat) (hu64 : u < 18446744073709551616) (w : World) (hG : G w) :
    Calls Tryz.prog 257 #[.int .u64 u, .int .i64 10] w fun e w' => e = .returned (.string ⟨(Lib.decDigits u).toArray⟩) ∧ Below w.heap.size w w' := by
  by_cases hs : u < 100
  · go_enter Tryz.func257, Tryz.ntmps257
    go_wp2_with (go_at_call 289; refine (Tryz.internal_strconv_small u hs _).mono ?_; rintro e w' ⟨rfl, rfl⟩)
    go_ret
    exact ⟨rfl, Below.refl _ _⟩
  · have hu1 : 1 ≤ u := by omega
    have hnd20 : Lib.nDigits u ≤ 20 := by have := Lib.numDigits_eq u hu1 hu64; split at this <;> omega
    have hsl1 : ∀ W, (Instr.sliceAt 241 (.pointer (some ⟨w.heap.size, 0, none⟩)) none (some (.int .i64 (Lib.nDigits u : Int))) none).run Tryz.prog W = .ok (.slice (some ⟨w.heap.size, 0, none⟩) (Lib.nDigits u) 24) W := fun W => by
      rw [run_sliceAt_array_h W 241 ⟨w.heap.size, 0, none⟩ (by rw [arr24]; rfl) .i64 (Lib.nDigits u : Int) (by omega) (by rw [len54]; omega), len54]
      go_simp
    have hH0 := zeros_hold w (Lib.nDigits u) (by omega)
    have hfmt := Tryz.internal_strconv_formatBase10 w.heap.size 0 24 u (Array.replicate (Lib.nDigits u) 0) (w.alloc (.cells Lib.zeros24 241)) hH0 (by rw [Array.size_replicate]; exact Lib.lt_pow_nDigits u) hu64 (by rw [Array.size_replicate]; omega)
    rw [Array.size_replicate] at hfmt
    have HH0 := Lib.hid hH0
    clear hH0
    have hnum := Tryz.internal_strconv_numDigits u hu1 hu64 (w.alloc (.cells Lib.zeros24 241)) (Lib.tabIs_alloc hG.p10 _)
    clear hG
    go_enter Tryz.func257, Tryz.ntmps257
    go_wp2_with (go_at_call 290; refine hnum.mono ?_; rintro e w' ⟨rfl, rfl⟩)
    go_at_call 291
    refine hfmt.mono ?_
    rintro e w' ⟨rfl, k, v', dk, rfl, hF⟩
    have hcv : (convert 129 9 (.slice (some ⟨w.heap.size, 0, none⟩) (Lib.nDigits u) 24)).run Tryz.prog ((putRow (fun (b : UInt8) => Value.int .u8 (b.toNat : Int)) (w.alloc (.cells Lib.zeros24 241)) w.heap.size 0 dk).drewN k) = .ok (.string ⟨(Lib.decDigits u).toArray⟩) ((putRow (fun (b : UInt8) => Value.int .u8 (b.toNat : Int)) (w.alloc (.cells Lib.zeros24 241)) w.heap.size 0 dk).drewN k) := by
      have h := run_convert_bytes_back (P := Tryz.prog) ((putRow (fun (b : UInt8) => Value.int .u8 (b.toNat : Int)) (w.alloc (.cells Lib.zeros24 241)) w.heap.size 0 dk).drewN k) 129 9 5 ⟨w.heap.size, 0, none⟩ 24 (Lib.decDigits u) Tryz.underlying129 Tryz.underlying5 Tryz.underlying9 (fun j hj => by
        rw [Lib.row_is_numeral hF j hj, Lib.add_plain, World.cell?_drewN]
        exact cell?_putRow (fun (b : UInt8) => Value.int .u8 (b.toNat : Int)) _ w.heap.size 0 _ dk HH0.out (by rw [hF.size, Array.size_replicate]) j (by rw [hF.size]; rw [Lib.decDigits_length] at hj; exact hj))
      rw [Lib.decDigits_length] at h
      exact h
    have hB := putRow_below w (.cells Lib.zeros24 241) dk k
    go_wp2
    go_ret
    exact ⟨rfl, hB⟩

set_option maxRecDepth 100000 in
theorem fmtu_any (u : Nat) (hu64 : u < 18446744073709551616) (w : World) (hG : G w) :
    Calls Tryz.prog 207 #[.int .u64 u, .int .i64 10] w fun e w' => e = .returned (.string ⟨(Lib.decDigits u).toArray⟩) ∧ Below w.heap.size w w' := by
  go_enter Tryz.func207, Tryz.ntmps207
  go_wp2_with (go_at_call 257; refine (ifmtu_any u hu64 _ hG).mono ?_; rintro e w' ⟨rfl, hB⟩)
  go_ret
  exact ⟨rfl, hB⟩

theorem fmtu_at (a : Int) (u : Nat) (ha : a = u) (hu64 : u < 18446744073709551616) (w : World) (hG : G w) :
    Calls Tryz.prog 207 #[.int .u64 a, .int .i64 10] w fun e w' => e = .returned (.string ⟨(Lib.decDigits u).toArray⟩) ∧ Below w.heap.size w w' := by
  subst ha; exact fmtu_any u hu64 w hG
end Go.Proofs.YtbhdoocajfkfiaaGreatDoor

namespace Go.Proofs.YtbhdoocajfkfiaaGreatDoor.num
open Go.ChangeShapes Go.WideShapes Go.ChangeAt Go.RowKit Go.Lib

theorem nDigits_le (u : Nat) (hu : u < 18446744073709551616) : nDigits u ≤ 20 := by
  by_cases h : u = 0
  · subst h; rw [nDigits_small (by omega)]; omega
  · have := numDigits_eq u (by omega) hu
    split at this <;> omega

set_option maxHeartbeats 600000 in
set_option maxRecDepth 100000 in
theorem digits_any (u : Nat) (hu : u < 18446744073709551616) (w : World) :
    Calls Tryz.prog 162 #[.int .u64 u] w fun e w' => e = .returned (.string ⟨(decDigits u).toArray⟩) ∧ Below w.heap.size w w' := by
  go_enter Tryz.func162, Tryz.ntmps162
  go_wp2
  go_loopw [0, 3] (fun n s wr => ∃ m : Nat, m ≤ u ∧ n = .int .u64 m ∧ ∃ x : List UInt8, s = .string ⟨x.toArray⟩ ∧ Hid (decDigits u = decDigits m ++ x) ∧ Below w.heap.size w wr) (fun n _ _ => (intOf n).toNat)
  case atStart => exact ⟨u, Nat.le_refl _, rfl, [], rfl, Lib.hid (by simp), Below.refl _ _⟩
  case round =>
    obtain ⟨m, hm, rfl, x, rfl, hx, hb⟩ := hrel
    have hxl : x.length ≤ 20 := by
      have h1 := congrArg List.length hx.out
      have h2 := nDigits_le u hu
      rw [List.length_append, decDigits_length] at h1
      omega
    by_cases hlt : 9 < m
    · obtain ⟨c, hc, hcn⟩ := byte_of (48 + m % 10) (by omega)
      have hcv := conv1 wr (48 + (m : Int) % 10) c (by omega)
      have HD : Hid (decDigits u = decDigits (m / 10) ++ (c :: x)) := Lib.hid (by rw [hx.out, hc, decDigits, dif_neg (by omega), List.append_assoc]; rfl)
      clear hc hcn
      go_wp2
      go_roundw
      case rel => exact ⟨m / 10, by omega, by go_num, c :: x, rfl, HD, (hb.alloc (by simpa using hb.size) _)⟩
      case measure => simp [intOf]; omega
    · obtain ⟨c, hc, hcn⟩ := byte_of (48 + m) (by omega)
      have hcv := conv1 wr (48 + (m : Int)) c (by omega)
      have HD : Hid (decDigits u = c :: x) := Lib.hid (by rw [hx.out, hc, decDigits, dif_pos (by omega)]; rfl)
      clear hc hcn
      go_wp2
      go_ret
      exact ⟨by rw [HD.out]; rfl, (hb.alloc (by simpa using hb.size) _)⟩

theorem digits_at (a : Int) (u : Nat) (ha : a = u) (hu : u < 18446744073709551616) (w : World) :
    Calls Tryz.prog 162 #[.int .u64 a] w fun e w' => e = .returned (.string ⟨(decDigits u).toArray⟩) ∧ Below w.heap.size w w' := by
  subst ha; exact digits_any u hu w
end Go.Proofs.YtbhdoocajfkfiaaGreatDoor.num

namespace Go.Proofs.YtbhdoocajfkfiaaGreatDoor.num
open Go.ChangeShapes Go.WideShapes Go.ChangeAt Go.RowKit Go.Lib

set_option maxHeartbeats 1000000 in
set_option maxRecDepth 100000 in
theorem refshow_any (n : Int) (h1 : -9223372036854775808 ≤ n) (h2 : n ≤ 9223372036854775807) (w : World) :
    Calls Tryz.prog 119 #[.int .i64 n] w fun e w' => e = .returned (.string ⟨(showS n).toArray⟩) ∧ Below w.heap.size w w' := by
  obtain ⟨u, hu⟩ : ∃ u, u = n.natAbs := ⟨_, rfl⟩
  obtain ⟨sg, hsg⟩ : ∃ sg : List UInt8, sg = if n < 0 then [45] else [] := ⟨_, rfl⟩
  have hsl : sg.length ≤ 1 := by rw [hsg]; split <;> simp
  have hu64 : u ≤ 9223372036854775808 := by omega
  have HS : Hid (showS n = if u % 1000000 = 0 then sg ++ decDigits (u / 1000000) else (sg ++ decDigits (u / 1000000)) ++ 46 :: frac (u % 1000000)) := by
    unfold showS; rw [← hu, ← hsg]; rfl
  have hdl := nDigits_le (u / 1000000) (by omega)
  rw [← decDigits_length] at hdl
  have hul : u < 18446744073709551616 := by omega
  have hd := digits_at ((u : Int) / 1000000) (u / 1000000) (by omega) (by omega) w
  have HU := Lib.hid hu
  have HSG := Lib.hid hsg
  clear hu hsg
  go_enter Tryz.func119, Tryz.ntmps119
  go_upto_if 9 with fail
  go_cut [3, 4] (fun s3 s4 wx => s3 = .string ⟨sg.toArray⟩ ∧ s4 = .int .u64 u ∧ w = wx)
  case first =>
    by_cases hn : n < 0
    · have e1 : sg = [45] := by rw [HSG.out, if_pos hn]
      have H1 := Lib.hid e1
      clear e1
      go_wp2
      go_meet
      exact ⟨by rw [H1.out], congrArg (Value.int .u64) (by have := HU.out; omega), rfl⟩
    · have e1 : sg = [] := by rw [HSG.out, if_neg hn]
      have H1 := Lib.hid e1
      have e2 : IntKind.u64.wrap n = (u : Int) := by
        have := HU.out
        rw [IntKind.wrap_u64]; omega
      clear e1
      go_wp2
      go_meet
      exact ⟨by rw [H1.out], rfl, rfl⟩
  case rest =>
    obtain ⟨rfl, rfl, rfl⟩ := hcut
    go_wp2_with fail
    refine hd.mono ?_
    rintro e w' ⟨rfl, hB⟩
    clear hd
    obtain ⟨dg, hdg⟩ : ∃ dg, dg = decDigits (u / 1000000) := ⟨_, rfl⟩
    rw [← hdg] at hdl HS ⊢
    clear hdg
    obtain ⟨r, hr⟩ : ∃ r, r = u % 1000000 := ⟨_, rfl⟩
    have er : (u : Int) % 1000000 = (r : Int) := by omega
    rw [← hr] at HS
    have hrl : r < 1000000 := by omega
    have ER := Lib.hid er
    clear hr er
    by_cases hr0 : r = 0
    · have t0 : ((u : Int) % 1000000 == 0) = true := by have := ER.out; simp; omega
      have HQ : Hid (showS n = sg ++ dg) := Lib.hid (by rw [HS.out, if_pos hr0])
      go_wp2_with fail
      go_ret
      exact ⟨by rw [HQ.out]; simp, hB⟩
    · have t0 : ((u : Int) % 1000000 == 0) = false := by have := ER.out; simp; omega
      have HQ : Hid (showS n = (sg ++ dg) ++ 46 :: frL 6 r) := Lib.hid (by rw [HS.out, if_neg hr0, frac_eq r hrl])
      clear HS
      go_wp2_with fail
      go_loopw [3, 5] (fun s3 s5 wr => ∃ (k q : Nat) (dn : List UInt8), k ≤ 6 ∧ q < 1000000 ∧ s3 = .string ⟨dn.toArray⟩ ∧ s5 = .int .u64 q ∧ dn.length + k ≤ 28 ∧ Hid (showS n = dn ++ frL k q ∧ ∃ t, q = t * 10 ^ (6 - k)) ∧ Below w.heap.size w wr) (fun s3 _ _ => 30 - strLen s3)
      case atStart =>
        refine ⟨6, r, sg ++ (dg ++ [46]), by omega, hrl, rfl, by rw [ER.out], ?_, Lib.hid ⟨?_, r, by simp⟩, hB⟩
        · simp; omega
        · rw [HQ.out]; simp
      case round =>
        obtain ⟨k, q, dn, hk, hq, rfl, rfl, hdn, hh, hb⟩ := hrel
        by_cases hq0 : q = 0
        · have HF : Hid (showS n = dn) := Lib.hid (by
            rw [hh.out.1]
            cases k with
            | zero => simp [frL]
            | succ k => simp [frL, hq0])
          go_wp2_with fail
          go_ret
          exact ⟨by rw [HF.out]; rfl, hb⟩
        · cases k with
          | zero => exact absurd (dvd_end q hq hh.out.2) hq0
          | succ k =>
            have hfr : showS n = dn ++ (UInt8.ofNat (48 + q / 100000) :: frL k (q % 100000 * 10)) := by
              rw [hh.out.1, frL, if_neg hq0]
            have hdv := dvd_step k q (by omega) hh.out.2
            obtain ⟨c, hc, _⟩ := byte_of (48 + q / 100000) (by omega)
            have hdd : decDigits (q / 100000) = [c] := by rw [hc, decDigits_one (by omega)]
            rw [← hc] at hfr
            have HF := Lib.hid (And.intro hfr hdv)
            have hcall := digits_at ((q : Int) / 100000) (q / 100000) (by omega) (by omega) wr
            rw [hdd] at hcall
            clear hfr hdv hdd hc hh
            go_wp2_with fail
            refine hcall.mono ?_
            rintro e w2 ⟨rfl, hb2⟩
            clear hcall
            go_wp2_with fail
            go_roundw
            case rel => exact ⟨k, q % 100000 * 10, dn ++ [c], by omega, by omega, rfl, by go_num, by simp; omega, Lib.hid ⟨by rw [HF.out.1]; simp, HF.out.2⟩, hb.trans (hb2.mono hb.size)⟩
            case measure => simp [strLen_mk]; omega
theorem strip_trimB (l : List UInt8) : trimRightB l 48 = strip l := by rw [← strip_trim, trimRightS_one]

set_option maxHeartbeats 1000000 in
set_option maxRecDepth 100000 in
theorem show_any (n : Int) (h1 : -9223372036854775808 ≤ n) (h2 : n ≤ 9223372036854775807) (w : World) (hG : G w) :
    Calls Tryz.prog 152 #[.int .i64 n] w fun e w' => e = .returned (.string ⟨(showS n).toArray⟩) ∧ Below w.heap.size w w' := by
  obtain ⟨u, hu⟩ : ∃ u, u = n.natAbs := ⟨_, rfl⟩
  obtain ⟨sg, hsg⟩ : ∃ sg : List UInt8, sg = if n < 0 then [45] else [] := ⟨_, rfl⟩
  have hsl : sg.length ≤ 1 := by rw [hsg]; split <;> simp
  have hu64 : u ≤ 9223372036854775808 := by omega
  have HS : Hid (showS n = if u % 1000000 = 0 then sg ++ decDigits (u / 1000000) else (sg ++ decDigits (u / 1000000)) ++ 46 :: frac (u % 1000000)) := by
    unfold showS; rw [← hu, ← hsg]; rfl
  have hdl := nDigits_le (u / 1000000) (by omega)
  rw [← decDigits_length] at hdl
  have hul : u < 18446744073709551616 := by omega
  have hd := fmtu_at ((u : Int) / 1000000) (u / 1000000) (by omega) (by omega) w hG
  have HU := Lib.hid hu
  have HSG := Lib.hid hsg
  clear hu hsg
  go_enter Tryz.func152, Tryz.ntmps152
  go_upto_if 10 with fail
  go_cut [3, 4] (fun s3 s4 wx => s3 = .string ⟨sg.toArray⟩ ∧ s4 = .int .u64 u ∧ w = wx)
  case first =>
    by_cases hn : n < 0
    · have e1 : sg = [45] := by rw [HSG.out, if_pos hn]
      have H1 := Lib.hid e1
      have e2 : IntKind.u64.wrap (-IntKind.u64.wrap n) = (u : Int) := by
        have := HU.out
        rw [IntKind.wrap_u64, IntKind.wrap_u64]; omega
      clear e1
      go_wp2
      go_meet
      exact ⟨by rw [H1.out], rfl, rfl⟩
    · have e1 : sg = [] := by rw [HSG.out, if_neg hn]
      have H1 := Lib.hid e1
      have e2 : IntKind.u64.wrap n = (u : Int) := by
        have := HU.out
        rw [IntKind.wrap_u64]; omega
      clear e1
      go_wp2
      go_meet
      exact ⟨by rw [H1.out], rfl, rfl⟩
  case rest =>
    obtain ⟨rfl, rfl, rfl⟩ := hcut
    go_wp2_with fail
    refine hd.mono ?_
    rintro e w' ⟨rfl, hB⟩
    clear hd
    obtain ⟨dg, hdg⟩ : ∃ dg, dg = decDigits (u / 1000000) := ⟨_, rfl⟩
    rw [← hdg] at hdl HS ⊢
    clear hdg
    obtain ⟨r, hr⟩ : ∃ r, r = u % 1000000 := ⟨_, rfl⟩
    have er : (u : Int) % 1000000 = (r : Int) := by omega
    rw [← hr] at HS
    have hrl : r < 1000000 := by omega
    have ER := Lib.hid er
    clear hr er
    by_cases hr0 : r = 0
    · have t0 : ((u : Int) % 1000000 == 0) = true := by have := ER.out; simp; omega
      have HQ : Hid (showS n = sg ++ dg) := Lib.hid (by rw [HS.out, if_pos hr0])
      go_wp2_with fail
      go_ret
      exact ⟨by rw [HQ.out]; rfl, hB⟩
    · have t0 : ((u : Int) % 1000000 == 0) = false := by have := ER.out; simp; omega
      have hx : (decDigits (1000000 + r)).length = 7 := by rw [decDigits_length, nDigits7 r hrl]
      have HQ : Hid (showS n = (sg ++ dg) ++ 46 :: strip ((decDigits (1000000 + r)).drop 1)) := Lib.hid (by rw [HS.out, if_neg hr0]; rfl)
      have hd := fmtu_at (1000000 + (u : Int) % 1000000) (1000000 + r) (by have := ER.out; omega) (by omega) w' (hG.below hB)
      obtain ⟨x, hxx⟩ : ∃ x, x = decDigits (1000000 + r) := ⟨_, rfl⟩
      rw [← hxx] at hx HQ hd
      have hx1 : 1 ≤ x.length := by omega
      have hx2 : x.length ≤ 7 := by omega
      rw [List.drop_one] at HQ
      have hsl2 : (strip x.tail).length ≤ 6 := by have := strip_le x.tail; simp at this; omega
      clear HS hx hxx
      go_wp2_with fail
      refine hd.mono ?_
      rintro e w2 ⟨rfl, hB2⟩
      clear hd
      go_wp2_with fail
      refine (Tryz.strings_TrimRight_one _ 48 (by decide) _ (by rw [bsize, List.length_tail]; omega)).mono ?_
      rintro e w3 ⟨rfl, rfl⟩
      have hst : (⟨(trimRightB (⟨x.tail.toArray⟩ : ByteArray).data.toList 48).toArray⟩ : ByteArray) = ⟨(strip x.tail).toArray⟩ := by rw [strip_trimB]
      rw [hst]
      clear hst
      go_wp2_with fail
      go_ret
      exact ⟨by rw [HQ.out]; simp, below_trans hB hB2⟩
end Go.Proofs.YtbhdoocajfkfiaaGreatDoor.num
