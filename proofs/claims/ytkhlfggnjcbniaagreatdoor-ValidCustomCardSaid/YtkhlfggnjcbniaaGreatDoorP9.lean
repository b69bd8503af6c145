/- A part of the proofs: lemmas and contracts. -/
import Derived.Test.YtkhlfggnjcbniaaGreatDoorP4
import Derived.Test.YtkhlfggnjcbniaaGreatDoorP8
set_option maxHeartbeats 12800000
set_option maxRecDepth 1000000
namespace Go.Proofs.YtkhlfggnjcbniaaGreatDoor.num
open Go.ChangeShapes Go.WideShapes Go.ChangeAt Go.RowKit Go.Lib str

theorem ret_two' {k m : IntKind} {a b c d : Int} (h : (a, b) = (c, d)) : Ending.returned (.tuple #[.int k a, .int m b]) = .returned (.tuple #[.int k c, .int m d]) := by
 cases h; rfl

theorem cutPre (l : List UInt8) : trimPrefix l [45] = unsigned l ∧ hasPrefix l [45] = negB l := by
 unfold trimPrefix hasPrefix negB unsigned
 cases l with
 | nil => exact ⟨rfl, rfl⟩
 | cons c r =>
  by_cases h : c = 45
  ·subst h; simp
  ·have : ¬ 45 = c := fun e => h e.symm
   have e1 : (45 == c) = false := by simpa using this
   have e2 : (c == 45) = false := by simpa using h
   simp [h, List.isPrefixOf, e1, e2]

theorem parse_any (l : List UInt8) (hl : l.length ≤ 100000000) (w : World) (hG : G w) (hE : GE w) :
  Calls Tryz.prog 182 #[.string ⟨l.toArray⟩] w fun e w' => e = .returned (.tuple #[.int .i64 (parseS l).1, .int .i64 (parseS l).2]) ∧ Below w.heap.size w w' := by
 obtain ⟨neg, hneg⟩ : ∃ neg, neg = negB l := ⟨_, rfl⟩
 obtain ⟨t, ht⟩ : ∃ t, t = unsigned l := ⟨_, rfl⟩
 have htl : t.length ≤ 100000000 := by rw [ht]; have := unsigned_le l; omega
 obtain ⟨h, hh⟩ : ∃ h, h = (cut1 46 t).1 := ⟨_, rfl⟩
 obtain ⟨p, hp⟩ : ∃ p, p = (cut1 46 t).2.1 := ⟨_, rfl⟩
 obtain ⟨pt, hpt⟩ : ∃ pt, pt = (cut1 46 t).2.2 := ⟨_, rfl⟩
 have hhl : h.length ≤ 100000000 := by rw [hh]; have := (cut1_le 46 t).1; omega
 have hpl : p.length ≤ 100000000 := by rw [hp]; have := (cut1_le 46 t).2; omega
 have HS : Hid (parseS l = if ((pt && !digB p) || (!(h == []) && !digB h) || ((h == []) && !pt)) = true then (0, 1) else fin neg h p) := Lib.hid (by
  unfold parseS
  rw [← hneg, ← ht, parse_form neg t, badB, ← hh, ← hp, ← hpt])
 have hc1 := Tryz.strings_CutPrefix ⟨l.toArray⟩ ⟨#[45]⟩ w
 have e1 : (⟨l.toArray⟩ : ByteArray).data.toList = l := rfl
 have e2 : (⟨#[45]⟩ : ByteArray).data.toList = [45] := rfl
 rw [e1, e2, (cutPre l).1, (cutPre l).2, ← ht, ← hneg] at hc1
 have hc2 : ∀ W, G W → Calls Tryz.prog 157 #[.string ⟨t.toArray⟩, .string ⟨#[46]⟩] W fun e w' => e = .returned (.tuple #[.string ⟨h.toArray⟩, .string ⟨p.toArray⟩, .bool pt]) ∧ Below W.heap.size W w' := by
  intro W hGW
  obtain ⟨m, hm⟩ := hGW.ml
  have := Tryz.strings_Cut ⟨t.toArray⟩ ⟨#[46]⟩ m W (by rw [bsize]; omega) hm
  have e3 : (⟨t.toArray⟩ : ByteArray).data.toList = t := rfl
  have e4 : (⟨#[46]⟩ : ByteArray).data.toList = [46] := rfl
  rw [e3, e4, cut_one, ← hh, ← hp, ← hpt] at this
  exact this.mono fun e w' ⟨he, n, hw⟩ => ⟨he, by rw [hw]; exact below_drewN (Below.refl _ _) n⟩
 have HDG : Hid (badB t = false → allDig h = true ∧ allDig p = true) := Lib.hid (by rw [hh, hp]; exact bad_dig t)
 have HBT : Hid (badB t = ((pt && !digB p) || (!(h == []) && !digB h) || ((h == []) && !pt))) := Lib.hid (by rw [badB, ← hh, ← hp, ← hpt])
 clear e1 e2 hneg ht hh hp hpt
 go_enter Tryz.func182, Tryz.ntmps182
 go_wp2_with fail
 refine hc1.mono ?_
 rintro e w' ⟨rfl, rfl⟩
 clear hc1
 go_wp2_with fail
 refine (hc2 _ hG).mono ?_
 rintro e w1 ⟨rfl, hB1⟩
 clear hc2
 have hG1 := hG.below hB1
 have hE1 := hE.below hB1
 obtain ⟨bp, hbp⟩ : ∃ b, b = digB p := ⟨_, rfl⟩
 obtain ⟨bh, hbh⟩ : ∃ b, b = digB h := ⟨_, rfl⟩
 have hdp := fun W => digb_any p (by omega) W
 have hdh := fun W => digb_any h (by omega) W
 rw [← hbp] at hdp
 rw [← hbh] at hdh
 rw [← hbp, ← hbh] at HS HBT
 obtain ⟨bad, hbad⟩ : ∃ b, b = ((pt && !bp) || (!(h == []) && !bh) || ((h == []) && !pt)) := ⟨_, rfl⟩
 rw [← hbad] at HS HBT
 have HBP := Lib.hid hbp
 have HBH := Lib.hid hbh
 have HBAD := Lib.hid hbad
 clear hbp hbh hbad
 go_upto_region 3 with fail
 go_cut [47] (fun s47 wx => s47 = .bool bad ∧ Below w1.heap.size w1 wx)
 case first =>
  cases pt with
  | true =>
   cases bp with
   | false =>
    go_wp2_with fail
    refine (hdp _).mono ?_
    rintro e w2 ⟨rfl, hB2⟩
    clear hdp hdh
    go_wp2_with fail
    go_meet
    exact ⟨by rw [HBAD.out]; simp, hB2⟩
   | true =>
    go_wp2_with fail
    refine (hdp _).mono ?_
    rintro e w2 ⟨rfl, hB2⟩
    clear hdp
    cases h with
    | nil =>
     go_wp2_with fail
     go_meet
     exact ⟨by rw [HBAD.out]; simp, hB2⟩
    | cons c r =>
     go_wp2_with fail
     refine (hdh _).mono ?_
     rintro e w3 ⟨rfl, hB3⟩
     clear hdh
     cases bh with
     | true =>
      go_wp2_with fail
      go_meet
      exact ⟨by rw [HBAD.out]; simp, below_trans hB2 hB3⟩
     | false =>
      go_wp2_with fail
      go_meet
      exact ⟨by rw [HBAD.out]; simp, below_trans hB2 hB3⟩
  | false =>
   clear hdp
   cases h with
   | nil =>
    go_wp2_with fail
    go_meet
    exact ⟨by rw [HBAD.out]; simp, Below.refl _ _⟩
   | cons c r =>
    go_wp2_with fail
    refine (hdh _).mono ?_
    rintro e w3 ⟨rfl, hB3⟩
    clear hdh
    cases bh with
    | true =>
     go_wp2_with fail
     go_meet
     exact ⟨by rw [HBAD.out]; simp, hB3⟩
    | false =>
     go_wp2_with fail
     go_meet
     exact ⟨by rw [HBAD.out]; simp, hB3⟩
 case rest =>
  obtain ⟨rfl, hB2⟩ := hcut
  have hG2 := hG1.below hB2
  have hE2 := hE1.below hB2
  have hB12 := below_trans hB1 hB2
  clear hdp hdh
  cases bad with
  | true =>
   have HQ : Hid (parseS l = (0, 1)) := Lib.hid (by rw [HS.out]; rfl)
   go_wp2_with fail
   go_ret2
   exact ⟨ret_two' (by rw [HQ.out]), hB12⟩
  | false =>
   have HQ : Hid (parseS l = fin neg h p) := Lib.hid (by rw [HS.out]; rfl)
   go_wp2_with fail
   have hdd := HDG.out HBT.out
   have HDH := Lib.hid hdd.1
   have HDP := Lib.hid hdd.2
   have hd48 : allDig (48 :: h) = true := by rw [allDig_cons, hdd.1]; rfl
   have hv48 : val (48 :: h) = val h := by rw [val_cons, dv_zero]; simp
   have hq := strip_dig p hdd.2
   have hql := strip_le p
   clear hdd
   have htr := fun W => Tryz.strings_TrimRight_one ⟨p.toArray⟩ 48 (by decide) W (by rw [bsize]; omega)
   have e1 : (⟨p.toArray⟩ : ByteArray).data.toList = p := rfl
   rw [e1, ← trimRightS_one, strip_trim] at htr
   clear e1
   obtain ⟨q, hqq⟩ : ∃ q, q = strip p := ⟨_, rfl⟩
   rw [← hqq] at hq hql htr
   have HFIN : Hid (parseS l = if val h ≤ 1000000000000 ∧ ¬ (val h = 1000000000000 ∧ q ≠ []) ∧ q.length ≤ 6 then (if neg then -((val h * 1000000 + val q * 10 ^ (6 - q.length) : Nat) : Int) else ((val h * 1000000 + val q * 10 ^ (6 - q.length) : Nat) : Int), 0) else (0, 2)) := Lib.hid (by
    rw [HQ.out, hqq]; rfl)
   have HDQ := Lib.hid hq
   clear hqq hq HQ HBT HDG HS
   by_cases hr : val h ≤ top63
   ·have hcall := parse63_ok (48 :: h) (by simp) hd48 (by simp; omega) (by rw [hv48]; exact hr) wc
    rw [hv48] at hcall
    have hr' : val h ≤ 9223372036854775807 := hr
    clear hd48 hv48 hr
    generalize val h = n at hcall hr' HFIN
    refine hcall.mono ?_
    rintro e w3 ⟨rfl, hB3⟩
    clear hcall
    go_wp2_with fail
    refine (htr _).mono ?_
    rintro e w4 ⟨rfl, rfl⟩
    clear htr
    have hB13 := below_trans hB12 hB3
    by_cases h1 : n ≤ 1000000000000
    ·by_cases hqe : q = []
     ·subst hqe
      have HF : Hid (parseS l = (if neg then -((n * 1000000 : Nat) : Int) else ((n * 1000000 : Nat) : Int), 0)) := Lib.hid (by
       rw [HFIN.out, if_pos ⟨h1, fun g => g.2 rfl, by simp⟩, val_nil]; simp)
      have hs6 := six [] rfl (by simp)
      have hv0 : val [48, 48, 48, 48, 48, 48] = 0 := val_zeros 6
      have hcall := parse63_ok [48, 48, 48, 48, 48, 48] (by simp) (by decide) (by decide) (by rw [hv0]; decide) w4
      rw [hv0] at hcall
      clear hs6 hv0
      cases hnm : ((n : Int) == 1000000000000)
      all_goals
       go_wp2_with fail
       refine hcall.mono ?_
       rintro e w5 ⟨rfl, hB5⟩
       clear hcall
       have hB15 := below_trans hB13 hB5
       cases neg with
       | true =>
        go_wp2_with fail
        go_ret2
        exact ⟨ret_two' (by rw [HF.out]; simp), hB15⟩
       | false =>
        go_wp2_with fail
        go_ret2
        exact ⟨ret_two' (by rw [HF.out]; simp), hB15⟩
     ·have hqi : q.isEmpty = false := by cases q with
       | nil => exact absurd rfl hqe
       | cons a b => rfl
      by_cases h2 : n = 1000000000000
      ·have HF : Hid (parseS l = (0, 2)) := Lib.hid (by rw [HFIN.out, if_neg (fun g => g.2.1 ⟨h2, hqe⟩)])
       have t1 : ((n : Int) == 1000000000000) = true := by simp; omega
       clear h2 hqe
       go_wp2_with fail
       go_ret2
       exact ⟨ret_two' (by rw [HF.out]), hB13⟩
      ·have t1 : ((n : Int) == 1000000000000) = false := by simp; omega
       by_cases h3 : q.length ≤ 6
       ·have HF : Hid (parseS l = (if neg then -((n * 1000000 + val q * 10 ^ (6 - q.length) : Nat) : Int) else ((n * 1000000 + val q * 10 ^ (6 - q.length) : Nat) : Int), 0)) := Lib.hid (by
         rw [HFIN.out, if_pos ⟨h1, fun g => h2 g.1, h3⟩])
        obtain ⟨s1, s2, s3⟩ := six q HDQ.out h3
        clear h2 hqe
        have ez : List.take (6 - q.length) (List.drop q.length [48, 48, 48, 48, 48, 48]) = List.replicate (6 - q.length) (48 : UInt8) := by
         rw [show ([48, 48, 48, 48, 48, 48] : List UInt8) = List.replicate 6 48 from rfl, List.drop_replicate, List.take_replicate]
         congr 1; omega
        have hzl : (q ++ List.replicate (6 - q.length) (48 : UInt8)).length ≤ 6 := by rw [List.length_append, List.length_replicate]; omega
        have hzn : q ++ List.replicate (6 - q.length) (48 : UInt8) ≠ [] := by
         intro g
         have := congrArg List.length g
         rw [List.length_append, List.length_replicate] at this
         simp at this
         rw [this.1] at hqi; cases hqi
        rw [← s2] at HF
        have EZ := Lib.hid ez
        have S1 := Lib.hid s1
        clear ez s2 s1 HFIN
        go_wp2_with fail
        rw [EZ.out]
        clear EZ
        generalize q ++ List.replicate (6 - q.length) (48 : UInt8) = z at *
        refine (parse63_ok z hzn S1.out (by omega) (by unfold top63; omega) w4).mono ?_
        rintro e w5 ⟨rfl, hB5⟩
        clear S1 hzn
        generalize val z = m at *
        have hB15 := below_trans hB13 hB5
        cases neg with
        | true =>
         go_wp2_with fail
         go_ret2
         exact ⟨ret_two' (by rw [HF.out]; simp), hB15⟩
        | false =>
         go_wp2_with fail
         go_ret2
         exact ⟨ret_two' (by rw [HF.out]; simp), hB15⟩
       ·have HF : Hid (parseS l = (0, 2)) := Lib.hid (by rw [HFIN.out, if_neg (fun g => h3 g.2.2)])
        clear h2 hqe
        go_wp2_with fail
        go_ret2
        exact ⟨ret_two' (by rw [HF.out]), hB13⟩
    ·have HF : Hid (parseS l = (0, 2)) := Lib.hid (by rw [HFIN.out, if_neg (fun g => h1 g.1)])
     go_wp2_with fail
     go_ret2
     exact ⟨ret_two' (by rw [HF.out]), hB13⟩
   ·have HF : Hid (parseS l = (0, 2)) := Lib.hid (by rw [HFIN.out, if_neg (fun g => hr (by unfold top63; omega))])
    have hcall := parse63_range (48 :: h) (by simp) hd48 (by simp; omega) (by rw [hv48]; exact hr) wc hE2
    clear hd48 hv48 hr HFIN
    refine hcall.mono ?_
    rintro e w3 ⟨⟨N, rfl⟩, hB3⟩
    clear hcall
    have hB13 := below_trans hB12 hB3
    go_wp2_with fail
    refine (htr _).mono ?_
    rintro e w4 ⟨rfl, rfl⟩
    clear htr
    go_wp2_with fail
    go_ret2
    exact ⟨ret_two' (by rw [HF.out]), hB13⟩
end Go.Proofs.YtkhlfggnjcbniaaGreatDoor.num
