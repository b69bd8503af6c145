/- The contract of link.Absolute. -/
import Derived.Test.YtoghjhaagallkaaGreatDoorAbsPure
import Derived.RegionTactic
import Derived.ChangeAlike
namespace Go.Proofs.YtoghjhaagallkaaGreatDoor.link
open Go.ChangeShapes Go.WideShapes Go.ChangeAt Go.RowKit Go.Lib Go.Proofs.YtoghjhaagallkaaGreatDoor.str

theorem cutpre2_any (l : List UInt8) (w : World) :
    Calls Tryz.prog 11 #[.string ⟨l.toArray⟩, .string ⟨#[47, 47]⟩] w fun e w' => e = .returned (.tuple #[.string ⟨(if Lib.hasPrefix l [47, 47] then l.drop 2 else l).toArray⟩, .bool (Lib.hasPrefix l [47, 47])]) ∧ w = w' := by
  refine (Tryz.strings_CutPrefix ⟨l.toArray⟩ ⟨#[47, 47]⟩ w).mono ?_
  rintro e w' ⟨rfl, rfl⟩
  exact ⟨rfl, rfl⟩
theorem haspre_any (l : List UInt8) (w : World) :
    Calls Tryz.prog 15 #[.string ⟨l.toArray⟩, .string ⟨#[47]⟩] w fun e w' => e = .returned (.bool (l.head? == some 47)) ∧ w = w' := by
  refine (Tryz.strings_HasPrefix ⟨l.toArray⟩ ⟨#[47]⟩ w).mono ?_
  rintro e w' ⟨rfl, rfl⟩
  refine ⟨ret_bool ?_, rfl⟩
  show [47].isPrefixOf l = _
  cases l with
  | nil => rfl
  | cons a r => simp [List.isPrefixOf, Bool.beq_comm]

set_option maxHeartbeats 3200000 in
set_option maxRecDepth 100000 in
theorem abs_any (l : List UInt8) (hl : l.length ≤ 1000000) (w : World) (hG : G w) (hE : GE w) (hU : GU w) :
    Calls Tryz.prog 6 #[.string ⟨l.toArray⟩] w fun e w' => e = .returned (.bool (absS l)) ∧ Below w.heap.size w w' := by
  obtain ⟨v, hv⟩ : ∃ v, v = absS l := ⟨_, rfl⟩
  rw [← hv]
  unfold absS at hv
  have hsc := scheme_any l (by omega) w hG
  cases ho : sch true l with
  | none =>
    rw [ho] at hsc hv
    have HY : Hid (v = false) := Lib.hid hv
    clear hv ho
    go_enter Tryz.func6, Tryz.ntmps6
    go_wp2_with fail
    refine hsc.mono ?_
    rintro e w1 ⟨rfl, hb⟩
    go_wp2_with fail
    go_ret
    exact ⟨ret_bool HY.out.symm, hb⟩
  | some n =>
    have hlt := sch_lt l true n ho
    rw [ho] at hsc hv
    have e1 : schT l (some n) = lowS (l.take n) := rfl
    rw [e1, Option.isSome_some] at hsc
    have hlen : (lowS (l.take n)).length = n := by unfold lowS; simp; omega
    dsimp only at hv
    rw [show n + 1 = (lowS (l.take n)).length + 1 from by rw [hlen]] at hv
    have hls : (lowS (l.take n)).length + 1 ≤ l.length := by omega
    clear e1 ho hlen hlt
    generalize lowS (l.take n) = sc at *
    clear n
    -- the pieces
    have hdl : (l.drop (sc.length + 1)).length ≤ 1000000 := by simp; omega
    have hc1 := fun w h => cut_any (l.drop (sc.length + 1)) 35 (by omega) w h
    unfold absR at hv
    have hle1 := cut1_le 35 (l.drop (sc.length + 1))
    have hc2 := fun w h => cut_any (cut1 35 (l.drop (sc.length + 1))).1 63 (by omega) w h
    have hle2 := cut1_le 63 (cut1 35 (l.drop (sc.length + 1))).1
    generalize hr1 : (cut1 35 (l.drop (sc.length + 1))).1 = r1 at *
    generalize (cut1 35 (l.drop (sc.length + 1))).2.1 = bh at *
    generalize (cut1 35 (l.drop (sc.length + 1))).2.2 = f1 at *
    generalize (cut1 63 r1).1 = r at *
    generalize (cut1 63 r1).2.1 = qu at *
    generalize (cut1 63 r1).2.2 = f2 at *
    clear hr1
    have hfb := fun w h => fine_any bh (by omega) w h
    have hfq := fun w h => fine_any qu (by omega) w h
    have hpre := fun w => cutpre2_any r w
    have hQ : absQ (kindS sc) r = if Lib.hasPrefix r [47, 47] then absW (kindS sc) (r.drop 2) else absF (kindS sc) r := rfl
    generalize absQ (kindS sc) r = q at *
    have HQ := Lib.hid hQ
    have HPL := Lib.hid (hasPre2_len r)
    clear hQ
    generalize fineS bh = fb at *
    generalize fineS qu = fq at *
    generalize Lib.hasPrefix r [47, 47] = pre at *
    have HV := Lib.hid hv
    clear hv
    have hrl : r.length ≤ 1000000 := by omega
    clear hle1 hle2 hdl
    obtain ⟨x, hx⟩ : ∃ x, x = if pre = true then r.drop 2 else r := ⟨_, rfl⟩
    rw [← hx] at hpre
    have hxl : x.length ≤ 1000000 := by
      rw [hx]
      split
      · simp; omega
      · exact hrl
    have HX := Lib.hid hx
    clear hx
    have hix := fun w => idx_call x 47 w
    have hfi := firstN_index x 47
    have HFI := Lib.hid hfi
    clear hfi
    generalize indexByte x 47 = ix at *
    go_enter Tryz.func6, Tryz.ntmps6
    go_wp2_with fail
    refine hsc.mono ?_
    rintro e w1 ⟨rfl, hb1⟩
    clear hsc
    go_wp2_with fail
    refine (hc1 w1 (hG.below hb1)).mono ?_
    rintro e w2 ⟨rfl, hb2⟩
    have hb2' := below_trans hb1 hb2
    clear hc1
    go_wp2_with fail
    refine (hc2 w2 (hG.below hb2')).mono ?_
    rintro e w3 ⟨rfl, hb3⟩
    have hb3' := below_trans hb2' hb3
    clear hc2
    go_wp2_with fail
    refine (hfb w3 (hU.below hb3')).mono ?_
    rintro e w4 ⟨rfl, hb4⟩
    have hb4' := below_trans hb3' hb4
    clear hfb hb1 hb2 hb3 hb4 hb2' hb3'
    cases fb
    · have HY : Hid (v = false) := Lib.hid (by rw [HV.out]; rfl)
      go_wp2_with fail
      go_ret
      exact ⟨ret_bool HY.out.symm, hb4'⟩
    · go_wp2_with fail
      refine (hfq w4 (hU.below hb4')).mono ?_
      rintro e w5 ⟨rfl, hb5⟩
      have hb5' := below_trans hb4' hb5
      clear hfq hb4' hb5
      cases fq
      · have HY : Hid (v = false) := Lib.hid (by rw [HV.out]; rfl)
        go_wp2_with fail
        go_ret
        exact ⟨ret_bool HY.out.symm, hb5'⟩
      · have HY : Hid (v = q) := Lib.hid (by rw [HV.out]; rfl)
        clear HV
        go_wp2_with fail
        refine (hpre w5).mono ?_
        rintro e w6 ⟨rfl, rfl⟩
        clear hpre
        go_wp2_with fail
        refine (hix w5).mono ?_
        rintro e w6 ⟨rfl, rfl⟩
        clear hix
        obtain ⟨nm, hnm⟩ : ∃ nm, nm = x.take (firstN 47 x) := ⟨_, rfl⟩
        obtain ⟨pt, hpt⟩ : ∃ pt, pt = x.drop (firstN 47 x) := ⟨_, rfl⟩
        have hnl : nm.length ≤ 1000000 := by rw [hnm]; simp; omega
        have hpl : pt.length ≤ 1000000 := by rw [hpt]; simp; omega
        have HNM := Lib.hid hnm
        have HPT := Lib.hid hpt
        clear hnm hpt
        go_upto_if 56 with fail
        go_cut [12, 13] (fun s12 s13 wx => s12 = .string ⟨nm.toArray⟩ ∧ s13 = .string ⟨pt.toArray⟩ ∧ Below w6.heap.size w6 wx)
        case first =>
          rcases HFI.out with ⟨h1, h2⟩ | ⟨i, h1, h2, h3⟩
          · have e0 : decide (0 ≤ ix) = false := decide_eq_false (by omega)
            have H2 := Lib.hid h2
            rw [e0]
            clear h1 h2 e0
            go_wp2_with fail
            go_meet
            exact ⟨by rw [HNM.out, H2.out, List.take_length], by rw [HPT.out, H2.out, List.drop_length], Below.refl _ _⟩
          · have e0 : decide (0 ≤ ix) = true := decide_eq_true (by omega)
            have H2 := Lib.hid h2
            rw [e0]
            subst h1
            clear h2 e0
            go_wp2_with fail
            go_region
            all_goals
              go_wp2_with fail
              go_meet
              exact ⟨by rw [HNM.out, H2.out], by rw [HPT.out, H2.out], (Below.refl _ _).drew⟩
        case rest =>
        obtain ⟨rfl, rfl, hb6⟩ := hcut
        have hb := below_trans hb5' hb6
        have hsv := fun w h1 h2 h3 => server_any nm hnl w h1 h2 h3
        have hho := fun w h1 h2 h3 => host_any nm hnl w h1 h2 h3
        have hfp := fun w h => fine_any pt (by omega) w h
        have hfr := fun w h => fine_any r (by omega) w h
        have hhp := fun w => haspre_any r w
        have HW : Hid (pre = true → ∀ k, absW k (r.drop 2) = (fineS pt && (if k = 0 then serverS nm else ((nm == []) || (if k = 1 then hostS nm else serverS nm))))) := Lib.hid (by
          intro h k
          have : x = r.drop 2 := by rw [HX.out, if_pos h]
          rw [← this, HNM.out, HPT.out]; rfl)
        have HF : Hid (∀ k, absF k r = (fineS r && (if k = 0 then false else if k = 1 then (r.head? == some 47) else true))) := Lib.hid (fun k => rfl)
        clear HX HNM HPT HPL HFI hb5' hb6
        generalize serverS nm = sv at *
        generalize hostS nm = ho at *
        generalize fineS pt = fp at *
        generalize fineS r = fr at *
        generalize (r.head? == some 47) = h47 at *
        have hG' := hG.below hb
        have hE' := hE.below hb
        have hU' := hU.below hb
        rcases kind_ways sc with hk | hk | ⟨h1, h2, h3, h4, h5, h6, hk⟩
        · have hk0 : kindS sc = 0 := if_pos hk
          rw [hk0] at HQ
          clear hk0 hho hfr hhp hls
          cases pre
          · have HZ : Hid (v = false) := Lib.hid (by rw [HY.out, HQ.out, if_neg (by decide), HF.out]; cases fr <;> rfl)
            rcases hk with rfl | rfl | rfl | rfl | rfl
            all_goals
              go_wp2_with fail
              go_ret
              exact ⟨ret_bool HZ.out.symm, hb⟩
          · have HZ : Hid (v = (fp && sv)) := Lib.hid (by rw [HY.out, HQ.out, if_pos rfl, HW.out rfl]; rfl)
            cases sv
            · have HZZ : Hid (v = false) := Lib.hid (by rw [HZ.out]; cases fp <;> rfl)
              rcases hk with rfl | rfl | rfl | rfl | rfl
              all_goals
                go_wp2_with fail
                refine (hsv wc hG' hE' hU').mono ?_
                rintro e w7 ⟨rfl, hb7⟩
                go_wp2_with fail
                go_ret
                exact ⟨ret_bool HZZ.out.symm, below_trans hb hb7⟩
            · have HZZ : Hid (v = fp) := Lib.hid (by rw [HZ.out]; cases fp <;> rfl)
              rcases hk with rfl | rfl | rfl | rfl | rfl
              all_goals
                go_wp2_with fail
                refine (hsv wc hG' hE' hU').mono ?_
                rintro e w7 ⟨rfl, hb7⟩
                have hb8 := below_trans hb hb7
                go_wp2_with fail
                refine (hfp w7 (hU.below hb8)).mono ?_
                rintro e w8 ⟨rfl, hb9⟩
                go_wp2_with fail
                go_ret
                exact ⟨ret_bool HZZ.out.symm, below_trans hb8 hb9⟩
        · have hk0 : kindS sc = 1 := by rw [hk]; decide
          rw [hk0] at HQ
          subst hk
          clear hk0 hls hsv
          cases pre
          · have HZ : Hid (v = (fr && h47)) := Lib.hid (by rw [HY.out, HQ.out, if_neg (by decide), HF.out]; rfl)
            cases h47
            · have HZZ : Hid (v = false) := Lib.hid (by rw [HZ.out]; cases fr <;> rfl)
              go_wp2_with fail
              refine (hhp wc).mono ?_
              rintro e w7 ⟨rfl, rfl⟩
              go_wp2_with fail
              go_ret
              exact ⟨ret_bool HZZ.out.symm, hb⟩
            · have HZZ : Hid (v = fr) := Lib.hid (by rw [HZ.out]; cases fr <;> rfl)
              go_wp2_with fail
              refine (hhp wc).mono ?_
              rintro e w7 ⟨rfl, rfl⟩
              go_wp2_with fail
              refine (hfr wc hU').mono ?_
              rintro e w8 ⟨rfl, hb9⟩
              go_wp2_with fail
              go_ret
              exact ⟨ret_bool HZZ.out.symm, below_trans hb hb9⟩
          · have HZ : Hid (v = (fp && ((nm == []) || ho))) := Lib.hid (by rw [HY.out, HQ.out, if_pos rfl, HW.out rfl]; rfl)
            by_cases hn : nm = []
            · have HZZ : Hid (v = fp) := Lib.hid (by rw [HZ.out, hn]; cases fp <;> rfl)
              have hemp : nm.isEmpty = true := by simp [hn]
              clear HZ hn hho
              go_wp2_with fail
              refine (hfp wc hU').mono ?_
              rintro e w8 ⟨rfl, hb9⟩
              go_wp2_with fail
              go_ret
              exact ⟨ret_bool HZZ.out.symm, below_trans hb hb9⟩
            · have HZ2 : Hid (v = (fp && ho)) := Lib.hid (by rw [HZ.out, show (nm == []) = false from by simp [hn]]; rfl)
              have hemp : nm.isEmpty = false := by simp [hn]
              clear HZ hn
              cases ho
              · have HZZ : Hid (v = false) := Lib.hid (by rw [HZ2.out]; cases fp <;> rfl)
                go_wp2_with fail
                refine (hho wc hG' hE' hU').mono ?_
                rintro e w7 ⟨rfl, hb7⟩
                go_wp2_with fail
                go_ret
                exact ⟨ret_bool HZZ.out.symm, below_trans hb hb7⟩
              · have HZZ : Hid (v = fp) := Lib.hid (by rw [HZ2.out]; cases fp <;> rfl)
                go_wp2_with fail
                refine (hho wc hG' hE' hU').mono ?_
                rintro e w7 ⟨rfl, hb7⟩
                have hb8 := below_trans hb hb7
                go_wp2_with fail
                refine (hfp w7 (hU.below hb8)).mono ?_
                rintro e w8 ⟨rfl, hb9⟩
                go_wp2_with fail
                go_ret
                exact ⟨ret_bool HZZ.out.symm, below_trans hb8 hb9⟩
        · rw [hk] at HQ
          have hn1 : (sc == [102, 116, 112]) = false := by simpa using h1
          have hn2 : (sc == [104, 116, 116, 112]) = false := by simpa using h2
          have hn3 : (sc == [104, 116, 116, 112, 115]) = false := by simpa using h3
          have hn4 : (sc == [119, 115]) = false := by simpa using h4
          have hn5 : (sc == [119, 115, 115]) = false := by simpa using h5
          have hn6 : (sc == [102, 105, 108, 101]) = false := by simpa using h6
          clear hk h1 h2 h3 h4 h5 h6 hls hho hhp
          cases pre
          · have HZ : Hid (v = fr) := Lib.hid (by rw [HY.out, HQ.out, if_neg (by decide), HF.out]; cases fr <;> rfl)
            go_wp2_with fail
            refine (hfr wc hU').mono ?_
            rintro e w8 ⟨rfl, hb9⟩
            go_wp2_with fail
            go_ret
            exact ⟨ret_bool HZ.out.symm, below_trans hb hb9⟩
          · have HZ : Hid (v = (fp && ((nm == []) || sv))) := Lib.hid (by rw [HY.out, HQ.out, if_pos rfl, HW.out rfl]; rfl)
            by_cases hn : nm = []
            · have HZZ : Hid (v = fp) := Lib.hid (by rw [HZ.out, hn]; cases fp <;> rfl)
              have hemp : nm.isEmpty = true := by simp [hn]
              clear HZ hn hsv
              go_wp2_with fail
              refine (hfp wc hU').mono ?_
              rintro e w8 ⟨rfl, hb9⟩
              go_wp2_with fail
              go_ret
              exact ⟨ret_bool HZZ.out.symm, below_trans hb hb9⟩
            · have HZ2 : Hid (v = (fp && sv)) := Lib.hid (by rw [HZ.out, show (nm == []) = false from by simp [hn]]; rfl)
              have hemp : nm.isEmpty = false := by simp [hn]
              clear HZ hn
              cases sv
              · have HZZ : Hid (v = false) := Lib.hid (by rw [HZ2.out]; cases fp <;> rfl)
                go_wp2_with fail
                refine (hsv wc hG' hE' hU').mono ?_
                rintro e w7 ⟨rfl, hb7⟩
                go_wp2_with fail
                go_ret
                exact ⟨ret_bool HZZ.out.symm, below_trans hb hb7⟩
              · have HZZ : Hid (v = fp) := Lib.hid (by rw [HZ2.out]; cases fp <;> rfl)
                go_wp2_with fail
                refine (hsv wc hG' hE' hU').mono ?_
                rintro e w7 ⟨rfl, hb7⟩
                have hb8 := below_trans hb hb7
                go_wp2_with fail
                refine (hfp w7 (hU.below hb8)).mono ?_
                rintro e w8 ⟨rfl, hb9⟩
                go_wp2_with fail
                go_ret
                exact ⟨ret_bool HZZ.out.symm, below_trans hb8 hb9⟩
end Go.Proofs.YtoghjhaagallkaaGreatDoor.link
