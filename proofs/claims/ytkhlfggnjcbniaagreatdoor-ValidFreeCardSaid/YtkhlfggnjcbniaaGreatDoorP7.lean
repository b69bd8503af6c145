/- A part of the proofs: lemmas and contracts. -/
import Derived.Test.YtkhlfggnjcbniaaGreatDoorP6
set_option maxHeartbeats 12800000
set_option maxRecDepth 1000000
namespace Go.Proofs.YtkhlfggnjcbniaaGreatDoor.utf
open Go.ChangeShapes Go.WideShapes Go.ChangeAt Go.RowKit Go.Lib

theorem byte_at (l : List UInt8) (i : Nat) (h : i < l.length) : ∃ c rest, l.drop i = c :: rest ∧ l.drop (i + 1) = rest ∧ ∀ h', (⟨l.toArray⟩ : ByteArray)[i]'h' = c :=
 ⟨l[i], l.drop (i + 1), List.drop_eq_getElem_cons h, rfl, fun _ => rfl⟩

theorem sign_any (l : List UInt8) (a : Int) (k : Nat) (ha : a = k) (hk : k < l.length) (hl : l.length ≤ 140737488355328) (w : World) :
  Calls Tryz.prog 113 #[.string ⟨l.toArray⟩, .int .i64 a] w fun e w' => e = .returned (.tuple #[.int .i64 ((signS (l.drop k)).1 : Nat), .bool (signS (l.drop k)).2]) ∧ w = w' := by
 subst ha
 obtain ⟨c, r, h1, h2, h3⟩ := byte_at l k hk
 rw [h1]
 have hc := c.toNat_lt
 have H2 := Lib.hid h2
 clear h1 h2
 go_enter Tryz.func113, Tryz.ntmps113
 by_cases c0 : c.toNat < 128
 ·have HS : Hid (signS (c :: r) = (1, false)) := Lib.hid (signS_ascii c r c0)
  go_wp2_with fail
  go_ret2
  exact ⟨by rw [HS.out]; rfl, rfl⟩
 ·go_upto_block 0 with fail
  go_cut [7, 8, 9] (fun s7 s8 s9 wx => ∃ n low code : Nat, s7 = .int .i64 n ∧ s8 = .int .i64 low ∧ s9 = .int .i64 code ∧ n ≤ 3 ∧ low ≤ 65536 ∧ code < 32 ∧ Hid (headF c.toNat = some (n, low, code)) ∧ w = wx)
  case first =>
   by_cases c1 : c.toNat < 194
   ·have HF : Hid (headF c.toNat = none) := Lib.hid (by unfold headF; rw [if_neg (by omega), if_neg (by omega), if_neg (by omega)])
    have HS2 : Hid (signS (c :: r) = (0, false)) := Lib.hid (signS_none c r c0 HF.out)
    go_wp2_with fail
    go_ret2
    exact ⟨by rw [HS2.out]; rfl, rfl⟩
   by_cases c2 : c.toNat < 224
   ·have HF : Hid (headF c.toNat = some (1, 128, c.toNat - 192)) := Lib.hid (by unfold headF; rw [if_pos (by omega)])
    go_wp2_with fail
    go_meet
    exact ⟨1, 128, c.toNat - 192, rfl, rfl, congrArg (Value.int .i64) (by omega), by omega, by omega, by omega, HF, rfl⟩
   by_cases c3 : c.toNat < 240
   ·have HF : Hid (headF c.toNat = some (2, 2048, c.toNat - 224)) := Lib.hid (by unfold headF; rw [if_neg (by omega), if_pos (by omega)])
    go_wp2_with fail
    go_meet
    exact ⟨2, 2048, c.toNat - 224, rfl, rfl, congrArg (Value.int .i64) (by omega), by omega, by omega, by omega, HF, rfl⟩
   by_cases c4 : c.toNat < 245
   ·have HF : Hid (headF c.toNat = some (3, 65536, c.toNat - 240)) := Lib.hid (by unfold headF; rw [if_neg (by omega), if_neg (by omega), if_pos (by omega)])
    go_wp2_with fail
    go_meet
    exact ⟨3, 65536, c.toNat - 240, rfl, rfl, congrArg (Value.int .i64) (by omega), by omega, by omega, by omega, HF, rfl⟩
   ·have HF : Hid (headF c.toNat = none) := Lib.hid (by unfold headF; rw [if_neg (by omega), if_neg (by omega), if_neg (by omega)])
    have HS2 : Hid (signS (c :: r) = (0, false)) := Lib.hid (signS_none c r c0 HF.out)
    go_wp2_with fail
    go_ret2
    exact ⟨by rw [HS2.out]; rfl, rfl⟩
  case rest =>
   obtain ⟨n, low, code, rfl, rfl, rfl, hn, hlow, hcode, hf, rfl⟩ := hcut
   have HQ : Hid (signS (c :: r) = endF n low (contF n code r)) := Lib.hid (signS_some c r c0 n low code hf.out)
   clear hf c0 h3 hc
   go_wp2_with fail
   go_loop [9, 10] (fun s9 s10 => ∃ j cd : Nat, s10 = .int .i64 (j + 1 : Nat) ∧ s9 = .int .i64 cd ∧ j ≤ n ∧ cd < 64 ^ (j + 1) ∧ Hid (contF n code r = contF (n - j) cd (l.drop (k + 1 + j)))) (fun _ s10 => 5 - (RowKit.intOf s10).toNat)
   case atStart => exact ⟨0, code, rfl, rfl, by omega, by omega, Lib.hid (by rw [H2.out]; rfl)⟩
   case round =>
    obtain ⟨j, cd, rfl, rfl, hj, hcd, hh⟩ := hrel
    have hcb : cd < 16777216 := Nat.lt_of_lt_of_le hcd (by rw [show 16777216 = 64 ^ 4 from rfl]; exact Nat.pow_le_pow_right (by decide) (by omega))
    have HCD := Lib.hid hcd
    clear hcd
    by_cases hlt : j < n
    ·obtain ⟨m, hm⟩ : ∃ m, n - j = m + 1 := ⟨n - j - 1, by omega⟩
     by_cases hlen : k + 1 + j < l.length
     ·obtain ⟨b, rest, h1, h2', h3⟩ := byte_at l (k + 1 + j) hlen
      have h3' : ∀ h', (⟨l.toArray⟩ : ByteArray)[k + (j + 1)]'h' = b := by
       intro h'
       have e : k + (j + 1) = k + 1 + j := by omega
       simp only [e]; exact h3 _
      have hh' := hh.out
      rw [hm, h1] at hh'
      have hbl := b.toNat_lt
      by_cases hc : 128 ≤ b.toNat ∧ b.toNat < 192
      ·rw [contF_yes m cd b rest hc] at hh'
       have HN : Hid (contF n code r = contF (n - (j + 1)) (cd * 64 + b.toNat - 128) (l.drop (k + 1 + (j + 1)))) := Lib.hid (by
        rw [hh', show n - (j + 1) = m by omega, ← Nat.add_assoc, h2'])
       have HP : Hid (cd * 64 + b.toNat - 128 < 64 ^ (j + 1 + 1)) := Lib.hid (by
        have := HCD.out
        rw [Nat.pow_succ]
        generalize 64 ^ (j + 1) = p at *
        omega)
       obtain ⟨hc1, hc2⟩ := hc
       clear h1 h2' hh hh' hm
       go_wp2_with fail
       go_round
       case rel => exact ⟨j + 1, cd * 64 + b.toNat - 128, by go_num, congrArg (Value.int .i64) (by omega), by omega, HP.out, HN⟩
       case measure => simp [RowKit.intOf]; omega
      ·rw [contF_no m cd b rest hc] at hh'
       have HN : Hid (signS (c :: r) = (0, false)) := Lib.hid (by rw [HQ.out, hh', endF_none])
       clear h1 h2' hh hh' hm
       by_cases hb : b.toNat < 128
       ·go_wp2_with fail
        go_ret2
        exact ⟨by rw [HN.out]; rfl, rfl⟩
       ·have hb2 : 192 ≤ b.toNat := by omega
        go_wp2_with fail
        go_ret2
        exact ⟨by rw [HN.out]; rfl, rfl⟩
     ·have hh' := hh.out
      rw [hm, List.drop_eq_nil_of_le (by omega), contF_nil] at hh'
      have HN : Hid (signS (c :: r) = (0, false)) := Lib.hid (by rw [HQ.out, hh', endF_none])
      clear hh hh' hm
      go_wp2_with fail
      go_ret2
      exact ⟨by rw [HN.out]; rfl, rfl⟩
    ·have hjn : n - j = 0 := by omega
     have hh' := hh.out
     rw [hjn, contF] at hh'
     have HE : Hid (signS (c :: r) = endF n low (some cd)) := Lib.hid (by rw [HQ.out, hh'])
     clear hh hh' hjn
     by_cases d1 : cd < low
     ·have HN : Hid (signS (c :: r) = (0, false)) := Lib.hid (by rw [HE.out, endF_bad _ _ _ (Or.inl d1)])
      go_wp2_with fail
      go_ret2
      exact ⟨by rw [HN.out]; rfl, rfl⟩
     by_cases d2 : 1114111 < cd
     ·have HN : Hid (signS (c :: r) = (0, false)) := Lib.hid (by rw [HE.out, endF_bad _ _ _ (Or.inr (Or.inl d2))])
      go_wp2_with fail
      go_ret2
      exact ⟨by rw [HN.out]; rfl, rfl⟩
     by_cases d3 : 55296 ≤ cd
     ·by_cases d4 : cd < 57344
      ·have HN : Hid (signS (c :: r) = (0, false)) := Lib.hid (by rw [HE.out, endF_bad _ _ _ (Or.inr (Or.inr ⟨d3, d4⟩))])
       go_wp2_with fail
       go_ret2
       exact ⟨by rw [HN.out]; rfl, rfl⟩
      ·have HN : Hid (signS (c :: r) = (n + 1, decide (65535 < cd))) := Lib.hid (by rw [HE.out, endF_ok _ _ _ (by omega)])
       go_wp2_with fail
       go_ret2
       exact ⟨by rw [HN.out]; simp; omega, rfl⟩
     ·have HN : Hid (signS (c :: r) = (n + 1, decide (65535 < cd))) := Lib.hid (by rw [HE.out, endF_ok _ _ _ (by omega)])
      go_wp2_with fail
      go_ret2
      exact ⟨by rw [HN.out]; simp; omega, rfl⟩

theorem tvalid_any (l : List UInt8) (hl : l.length ≤ 1000000000) (w : World) (hU : GU w) :
  Calls Tryz.prog 231 #[.string ⟨l.toArray⟩] w fun e w' => e = .returned (.bool (validD l)) ∧ Below w.heap.size w w' := by
 have h := valid_lib l hl w hU
 generalize validD l = v at *
 go_enter Tryz.func231, Tryz.ntmps231
 go_wp2_with fail
 refine h.mono ?_
 rintro e w' ⟨rfl, hB⟩
 go_wp2_with fail
 go_ret
 exact ⟨rfl, hB⟩

theorem ret_bool {a b : Bool} (h : a = b) : Ending.returned (.bool a) = .returned (.bool b) := by rw [h]

theorem rvalid_any (l : List UInt8) (hl : l.length ≤ 1000000000) (w : World) :
  Calls Tryz.prog 202 #[.string ⟨l.toArray⟩] w fun e w' => e = .returned (.bool (validD l)) ∧ w = w' := by
 obtain ⟨v, hv⟩ : ∃ v, v = validD l := ⟨_, rfl⟩
 have HV := Lib.hid hv
 rw [← hv]
 clear hv
 go_enter Tryz.func202, Tryz.ntmps202
 go_wp2_with fail
 go_loop [3] (fun s => ∃ k : Nat, s = .int .i64 k ∧ k ≤ l.length ∧ Hid (v = validD (l.drop k))) (fun s => l.length - (RowKit.intOf s).toNat)
 case atStart => exact ⟨0, rfl, by omega, Lib.hid (by rw [HV.out]; rfl)⟩
 case round =>
  obtain ⟨k, rfl, hk, hh⟩ := hrel
  by_cases hlt : k < l.length
  ·have hne : l.drop k ≠ [] := by
    intro g
    have := congrArg List.length g
    simp at this; omega
   have hs := valid_step (l.drop k) hne
   have hle := signS_le (l.drop k) hne
   rw [List.length_drop] at hle
   have hcall := sign_any l k k rfl hlt (by omega) w
   rw [← hh.out] at hs
   generalize signS (l.drop k) = sg at *
   obtain ⟨n, gr⟩ := sg
   simp only at hs hle hcall
   by_cases hn : n = 0
   ·rw [if_pos hn] at hs
    subst hn
    have H := Lib.hid hs
    clear hs hh
    go_wp2_with fail
    refine hcall.mono ?_
    rintro e w' ⟨rfl, rfl⟩
    clear hcall
    go_wp2_with fail
    go_ret
    exact ⟨ret_bool H.out.symm, rfl⟩
   ·rw [if_neg hn, List.drop_drop] at hs
    have H := Lib.hid hs
    clear hs hh
    go_wp2_with fail
    refine hcall.mono ?_
    rintro e w' ⟨rfl, rfl⟩
    clear hcall
    have t1 : ((n : Int) == 0) = false := by simp; omega
    go_wp2_with fail
    go_round
    case rel => exact ⟨k + n, by go_num, by omega, H⟩
    case measure => simp [RowKit.intOf]; omega
  ·have H : Hid (v = true) := Lib.hid (by rw [hh.out, List.drop_eq_nil_of_le (by omega)]; rfl)
   go_wp2_with fail
   go_ret
   exact ⟨ret_bool H.out.symm, rfl⟩
end Go.Proofs.YtkhlfggnjcbniaaGreatDoor.utf
