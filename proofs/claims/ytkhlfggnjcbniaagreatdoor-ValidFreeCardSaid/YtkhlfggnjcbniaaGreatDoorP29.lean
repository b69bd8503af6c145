/- A part of the proofs: lemmas and contracts. -/
import Derived.Deep.DeepCutAuto
import Derived.Test.YtkhlfggnjcbniaaGreatDoorP1
set_option maxHeartbeats 12800000
set_option maxRecDepth 1000000
namespace Go.Proofs.YtkhlfggnjcbniaaGreatDoor.num
open Go.ChangeShapes Go.WideShapes Go.ChangeAt Go.RowKit

theorem ret_two {k m : IntKind} {a b c d : Int} (h : (a, b) = (c, d)) : Ending.returned (.tuple #[.int k a, .int m b]) = .returned (.tuple #[.int k c, .int m d]) := by
 cases h; rfl

theorem refparse_any (l : List UInt8) (w : World) (hl : l.length ≤ 100000000) :
  Calls Tryz.prog 206 #[.string ⟨l.toArray⟩] w fun e w' => e = .returned (.tuple #[.int .i64 (parseS l).1, .int .i64 (parseS l).2]) ∧ w = w' := by
 obtain ⟨neg, hneg⟩ : ∃ neg, neg = negB l := ⟨_, rfl⟩
 have hs : parseS l = parseT neg (unsigned l) := by rw [hneg]; rfl
 have HS := Lib.hid hs; clear hs
 have HNEG := Lib.hid hneg; clear hneg
 go_enter Tryz.func206, Tryz.ntmps206
 go_upto_region 2 with fail
 go_cut [21] (fun s21 wx => s21 = .bool neg ∧ w = wx)
 case first =>
  cases l with
  | nil =>
   go_wp2
   go_meet
   exact ⟨by rw [HNEG.out]; rfl, rfl⟩
  | cons c r =>
   go_wp2
   go_meet
   refine ⟨?_, rfl⟩
   rw [HNEG.out]
   show Value.bool ((c.toNat : Int) == 45) = Value.bool (negB (c :: r))
   rw [negB_cons]
 case rest =>
  obtain ⟨rfl, rfl⟩ := hcut
  go_upto_if 21 with fail
  go_cut [4] (fun s4 wx => ∃ k : Nat, s4 = .int .i64 k ∧ k ≤ l.length ∧ k ≤ 1 ∧ Hid (l.drop k = unsigned l ∧ (neg = true ↔ k = 1)) ∧ w = wx)
  case first =>
   have h1 := unsigned_at l
   rw [← HNEG.out] at h1
   cases neg with
   | true =>
    obtain ⟨g1, g2⟩ := h1.1 rfl
    have G := Lib.hid g2
    clear h1 g2
    go_wp2
    go_meet
    exact ⟨1, rfl, g1, by omega, Lib.hid ⟨G.out, by simp⟩, rfl⟩
   | false =>
    have g2 := h1.2 rfl
    have G := Lib.hid g2
    clear h1 g2
    go_wp2
    go_meet
    exact ⟨0, rfl, Nat.zero_le _, by omega, Lib.hid ⟨G.out, by simp⟩, rfl⟩
  case rest =>
   obtain ⟨k, rfl, hk, hk1, hh, rfl⟩ := hcut
   obtain ⟨t, ht⟩ : ∃ t, t = unsigned l := ⟨_, rfl⟩
   have htl : t.length + k = l.length := by rw [ht, ← hh.out.1, List.length_drop]; omega
   have hd : cnt (l.drop k) = cnt t := by rw [ht, hh.out.1]
   have hc := count_any l k w hk (by omega)
   rw [hd] at hc
   have hle := cnt_le t
   have HT := Lib.hid (show l.drop k = t by rw [ht]; exact hh.out.1)
   have HN := Lib.hid hh.out.2
   rw [← ht] at HS
   clear ht hd hh HNEG
   have HK := Lib.hid htl
   have htl1 : t.length + k ≤ l.length := by omega
   have htl2 : l.length ≤ t.length + k := by omega
   clear htl
   generalize hdd : cnt t = d at hc hle
   have HD := Lib.hid hdd; clear hdd
   go_wp2_with fail
   refine hc.mono ?_
   rintro e w' ⟨rfl, rfl⟩
   clear hc
   go_upto_region 7 with fail
   go_cut [37] (fun s37 wx => ∃ pt : Bool, s37 = .bool pt ∧ Hid (pt = pointB t) ∧ w = wx)
   case first =>
    cases hdr : t.drop d with
    | nil =>
     have h1 := drop_nil_len hdr
     have H := Lib.hid hdr; clear hdr
     go_wp2
     go_meet
     exact ⟨false, rfl, Lib.hid (by unfold pointB; rw [HD.out, H.out]), rfl⟩
    | cons c p =>
     have h1 := drop_len hdr
     have hb : l.drop (k + d) = c :: p := by rw [← List.drop_drop, HT.out, hdr]
     have hc : ∀ h', (⟨l.toArray⟩ : ByteArray)[k + d]'h' = c := by
      intro h'
      obtain ⟨c', r', e1, _, e2⟩ := byte_at l (k + d) (by omega)
      rw [hb] at e1
      rw [e2, (List.cons.inj e1).1]
     have H := Lib.hid hdr; clear hdr hb
     go_wp2
     go_meet
     exact ⟨_, rfl, Lib.hid (by unfold pointB; rw [HD.out, H.out]; exact byteq c 46 46 rfl), rfl⟩
   case rest =>
    obtain ⟨pt, rfl, hpt, rfl⟩ := hcut
    go_upto_if 37 with fail
    go_cut [7] (fun s7 wx => ∃ p : List UInt8, s7 = .int .i64 (p.length : Nat) ∧ k + d + p.length ≤ l.length ∧ Hid (parseT neg t = fin neg (t.take d) p ∧ allDig p = true ∧ l.drop (k + d + 1) = p) ∧ w = wx)
    case first =>
     cases hdr : t.drop d with
     | nil =>
      have h1 := drop_nil_len hdr
      have hp : pt = false := by rw [hpt.out]; unfold pointB; rw [HD.out, hdr]
      have hq := parseT_nil neg t (by rw [HD.out]; exact hdr)
      rw [HD.out] at hq
      subst hp
      by_cases h0 : d = 0
      ·rw [if_pos h0] at hq
       have HQ := Lib.hid hq
       clear hq hpt hdr
       go_wp2
       go_ret2
       exact ⟨ret_two (by rw [HS.out, HQ.out]), rfl⟩
      ·rw [if_neg h0] at hq
       have HQ := Lib.hid hq
       have h2 : l.drop (k + d + 1) = [] := List.drop_eq_nil_of_le (by omega)
       have H2 := Lib.hid h2
       have t1 : ((d : Int) == 0) = false := by simp; omega
       have t2 : (((k : Int) + d) != (l.length : Int)) = false := by simp; omega
       clear hq h2 hpt hdr
       go_wp2
       go_meet
       exact ⟨[], rfl, by simp; omega, Lib.hid ⟨HQ.out, rfl, H2.out⟩, rfl⟩
     | cons c p =>
      have h1 := drop_len hdr
      have hb : l.drop (k + d + 1) = p := by rw [← List.drop_drop, ← List.drop_drop, HT.out, hdr]; rfl
      have hq := parseT_cons neg t c p (by rw [HD.out]; exact hdr)
      rw [HD.out] at hq
      by_cases hc : c = 46
      ·have hp : pt = true := by rw [hpt.out]; unfold pointB; rw [HD.out, hdr, hc]; rfl
       subst hp
       have hcall := count_at l (↑k + ↑d + 1) (k + d + 1) w (by omega) (by omega) (by omega)
       rw [hb] at hcall
       have H2 := Lib.hid hb
       have hce := cnt_all p
       have hle2 := cnt_le p
       by_cases he : p = []
       ·rw [if_neg (fun h => h.2.1 he)] at hq
        have HQ := Lib.hid hq
        subst he
        clear hq hb hpt hdr hce hle2
        go_wp2_with fail
        refine hcall.mono ?_
        rintro e w' ⟨rfl, rfl⟩
        clear hcall
        go_wp2
        go_ret2
        exact ⟨ret_two (by rw [HS.out, HQ.out]), rfl⟩
       ·have hpl : 1 ≤ p.length := by
         cases p with
         | nil => exact absurd rfl he
         | cons a b => simp
        by_cases hall : allDig p = true
        ·rw [if_pos ⟨hc, he, hall⟩] at hq
         have HQ := Lib.hid (And.intro hq hall)
         have hcn := hce.2 hall
         rw [hcn] at hcall
         clear hq hb hpt hdr hce hle2 hcn hall he
         go_wp2_with fail
         refine hcall.mono ?_
         rintro e w' ⟨rfl, rfl⟩
         clear hcall
         go_wp2
         go_meet
         exact ⟨p, rfl, by omega, Lib.hid ⟨HQ.out.1, HQ.out.2, H2.out⟩, rfl⟩
        ·rw [if_neg (fun h => hall h.2.2)] at hq
         have HQ := Lib.hid hq
         have hlt : cnt p < p.length := by
          have : cnt p ≠ p.length := fun h => hall (hce.1 h)
          omega
         generalize cnt p = x at hcall hlt
         clear hq hb hpt hdr hce hle2 hall he
         go_wp2_with fail
         refine hcall.mono ?_
         rintro e w' ⟨rfl, rfl⟩
         clear hcall
         by_cases h0 : x = 0
         ·go_wp2
          go_ret2
          exact ⟨ret_two (by rw [HS.out, HQ.out]), rfl⟩
         ·go_wp2
          go_ret2
          exact ⟨ret_two (by rw [HS.out, HQ.out]), rfl⟩
      ·have hp : pt = false := by rw [hpt.out]; unfold pointB; rw [HD.out, hdr]; simpa using hc
       subst hp
       rw [if_neg (fun h => hc h.1)] at hq
       have HQ := Lib.hid hq
       clear hq hb hpt hdr
       by_cases h0 : d = 0
       ·go_wp2
        go_ret2
        exact ⟨ret_two (by rw [HS.out, HQ.out]), rfl⟩
       ·have t1 : ((d : Int) == 0) = false := by simp; omega
        have t2 : (((k : Int) + d) != (l.length : Int)) = true := by simp; omega
        go_wp2
        go_ret2
        exact ⟨ret_two (by rw [HS.out, HQ.out]), rfl⟩
    case rest =>
     obtain ⟨p, rfl, hpl, hh, rfl⟩ := hcut
     clear hpt
     obtain ⟨hh1, hh2, hh3⟩ := hh.out
     have HF := Lib.hid hh1
     have HP := Lib.hid hh2
     have HL := Lib.hid hh3
     clear hh hh1 hh2 hh3
     go_wp2_with fail
     go_loop [8, 9] (fun n i => ∃ j : Nat, j ≤ d ∧ i = .int .i64 j ∧ ∃ x : Nat, x ≤ 10000000000009 ∧ n = .int .i64 x ∧ Hid (x = satFrom 0 (t.take j))) (fun _ i => d - (intOf i).toNat)
     case atStart => exact ⟨0, by omega, rfl, 0, by omega, rfl, Lib.hid rfl⟩
     case round =>
      obtain ⟨j, hj, rfl, x, hx, rfl, hxx⟩ := hrel
      by_cases hlt : j < d
      ·obtain ⟨c, rest, h1, h2, h3⟩ := byte_at l (k + j) (by omega)
       have hdr : t.drop j = c :: rest := by rw [← HT.out, List.drop_drop]; exact h1
       have hdig := dig_at t j c rest hdr (by rw [HD.out]; exact hlt)
       have hb := (isDig_iff c).1 hdig
       obtain ⟨hb1, hb2⟩ := hb
       have htk := take_snoc' t j c rest hdr
       have hsat := satFrom_snoc (t.take j) c 0
       rw [← htk, ← hxx.out, dv_eq] at hsat
       have HSAT := Lib.hid hsat
       clear h1 h2 hdr hdig htk hsat
       by_cases hxm : x ≤ 1000000000000
       ·go_wp2
        go_round
        case rel => exact ⟨j + 1, by omega, by go_num, x * 10 + (c.toNat - 48), by omega, congrArg (Value.int .i64) (by omega), Lib.hid (by rw [HSAT.out, if_pos hxm])⟩
        case measure => simp [intOf]; omega
       ·go_wp2
        go_round
        case rel => exact ⟨j + 1, by omega, by go_num, x, by omega, rfl, Lib.hid (by rw [HSAT.out, if_neg hxm])⟩
        case measure => simp [intOf]; omega
      ·have hjd : j = d := by omega
       subst hjd
       by_cases hxm : x ≤ 1000000000000
       ·obtain ⟨mx, hmx⟩ : ∃ mx, mx = decide (x = 1000000000000) := ⟨_, rfl⟩
        have HM := Lib.hid hmx
        clear hmx
        go_wp2_with fail
        go_loop [10, 11, 12, 13] (fun o u i _ => ∃ y : Nat, y ≤ p.length ∧ i = .int .i64 y ∧ ∃ out unit : Nat, o = .int .i64 out ∧ u = .int .i64 unit ∧ out + 10 * unit ≤ 1000001000000 * 1000000 ∧ unit ≤ 100000 ∧ Hid (fr mx 0 (x * 1000000) 100000 p = fr mx y out unit (p.drop y))) (fun _ _ i _ => p.length - (intOf i).toNat)
        case atStart => exact ⟨0, by omega, rfl, x * 1000000, 100000, by go_num, rfl, by omega, by omega, Lib.hid rfl⟩
        case round =>
         obtain ⟨y, hy, rfl, out, unit, rfl, rfl, hbd, hun, hfr⟩ := hrel
         by_cases hlt : y < p.length
         ·obtain ⟨c, rest, h1, h2, h3⟩ := byte_at l (k + j + 1 + y) (by have := congrArg List.length HL.out; simp at this; omega)
          have hdr : p.drop y = c :: rest := by rw [← HL.out, List.drop_drop]; exact h1
          have hnx : p.drop (y + 1) = rest := by rw [← HL.out, List.drop_drop]; exact h2
          have hdig := dig_all p y c rest hdr HP.out
          have hb := (isDig_iff c).1 hdig
          obtain ⟨hb1, hb2⟩ := hb
          have hf := hfr.out
          rw [hdr, fr, dv_eq, HM.out] at hf
          have hix : k + j + 1 + y < l.length := by have := congrArg List.length HL.out; simp at this; omega
          clear h1 h2 hdr hdig hfr
          have hm0 : 0 ≤ ((c.toNat : Int) - 48) * (unit : Int) := Int.mul_nonneg (by omega) (by omega)
          have hm1 : ((c.toNat : Int) - 48) * (unit : Int) ≤ 9 * (unit : Int) := Int.mul_le_mul_of_nonneg_right (by omega) (by omega)
          have ed : ((c.toNat : Int) - 48) = ((c.toNat - 48 : Nat) : Int) := by omega
          have hb3 : out + (c.toNat - 48) * unit + 10 * (unit / 10) ≤ 1000001000000 * 1000000 := by
           have : (c.toNat - 48) * unit ≤ 9 * unit := Nat.mul_le_mul_right _ (by omega)
           omega
          have HB3 := Lib.hid hb3
          have HED := Lib.hid ed
          clear ed hb3
          by_cases hz : c.toNat = 48
          ·have t1 : (((c.toNat : Int) - 48) != 0) = false := by simp; omega
           rw [if_neg (by omega), ← HM.out, ← hnx] at hf
           have HFR := Lib.hid hf
           clear hf hnx
           go_wp2
           go_round
           case rel => exact ⟨y + 1, by omega, by go_num, _, _, congrArg (Value.int .i64) (by rw [hz]; simp), congrArg (Value.int .i64) (by simp), HB3.out, by omega, HFR⟩
           case measure => simp [intOf]; omega
          ·have t1 : (((c.toNat : Int) - 48) != 0) = true := by simp; omega
           by_cases hq : x = 1000000000000 ∨ 6 ≤ y
           ·rw [if_pos ⟨by omega, by simpa using hq⟩] at hf
            have hfn := fin_none neg (t.take j) p HP.out (by rw [← hxx.out]; exact hxm) (by rw [← hxx.out]; exact hf)
            have HFN := Lib.hid hfn
            clear hf hfn hnx
            rcases hq with hq | hq
            ·have t2 : ((x : Int) == 1000000000000) = true := by simp; omega
             clear hq
             go_wp2
             go_ret2
             exact ⟨ret_two (by rw [HS.out, HF.out, HFN.out]), rfl⟩
            ·cases hx2 : ((x : Int) == 1000000000000)
             ·go_wp2
              go_ret2
              exact ⟨ret_two (by rw [HS.out, HF.out, HFN.out]), rfl⟩
             ·go_wp2
              go_ret2
              exact ⟨ret_two (by rw [HS.out, HF.out, HFN.out]), rfl⟩
           ·have t2 : ((x : Int) == 1000000000000) = false := by simp; omega
            have hy6 : y < 6 := by omega
            rw [if_neg (fun h => hq (by simpa using h.2)), ← HM.out, ← hnx] at hf
            have HFR := Lib.hid hf
            clear hf hnx hq
            go_wp2
            go_round
            case rel => exact ⟨y + 1, by omega, by go_num, _, _, congrArg (Value.int .i64) (by rw [HED.out]; simp), congrArg (Value.int .i64) (by simp), HB3.out, by omega, HFR⟩
            case measure => simp [intOf]; omega
         ·have hf := hfr.out
          rw [List.drop_eq_nil_of_le (by omega), fr, HM.out, hxx.out] at hf
          have hfs := fin_some neg (t.take j) p out HP.out (by rw [← hxx.out]; exact hxm) hf
          have HFS := Lib.hid hfs
          clear hf hfs hfr
          cases hn : neg with
          | true =>
           have hk1' := HN.out.1 hn
           subst hk1'
           subst hn
           go_wp2
           go_ret2
           exact ⟨ret_two (by rw [HS.out, HF.out, HFS.out]; rfl), rfl⟩
          | false =>
           have hk0 : k = 0 := by
            have := HN.out
            rw [hn] at this
            simp at this
            omega
           subst hk0
           subst hn
           go_wp2
           go_ret2
           exact ⟨ret_two (by rw [HS.out, HF.out, HFS.out]; rfl), rfl⟩
       ·have hfb := fin_big neg (t.take j) p (by rw [← hxx.out]; exact hxm)
        have HFB := Lib.hid hfb
        clear hfb
        go_wp2
        go_ret2
        exact ⟨ret_two (by rw [HS.out, HF.out, HFB.out]), rfl⟩
end Go.Proofs.YtkhlfggnjcbniaaGreatDoor.num
