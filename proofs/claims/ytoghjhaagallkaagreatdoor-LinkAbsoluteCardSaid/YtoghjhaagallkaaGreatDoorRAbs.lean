/- The contract of the reference's Absolute. -/
import Derived.Test.YtoghjhaagallkaaGreatDoorRServer
import Derived.Test.YtoghjhaagallkaaGreatDoorAbsPure
namespace Go.Proofs.YtoghjhaagallkaaGreatDoor.link
open Go.ChangeShapes Go.WideShapes Go.ChangeAt Go.RowKit Go.Lib Go.Proofs.YtoghjhaagallkaaGreatDoor.str

theorem cut1_first (c : UInt8) (r : List UInt8) : r.take (firstN c r) = (cut1 c r).1 ∧ ((firstN c r < r.length ∧ r.drop (firstN c r + 1) = (cut1 c r).2.1) ∨ (firstN c r = r.length ∧ (cut1 c r).2.1 = [])) := by
  unfold firstN
  rcases cut1_spec c r with ⟨_, e, _⟩ | ⟨_, e1, e2, _⟩
  · generalize (cut1 c r).1 = a at *
    generalize (cut1 c r).2.1 = b at *
    subst e
    refine ⟨List.take_left, .inl ⟨by simp, ?_⟩⟩
    rw [List.drop_append, List.drop_eq_nil_of_le (by omega), List.nil_append, show a.length + 1 - a.length = 1 from by omega]; rfl
  · rw [e1, e2]
    exact ⟨List.take_length, .inr ⟨rfl, rfl⟩⟩

theorem pre2_ways (r : List UInt8) : (r.length ≤ 1 ∧ Lib.hasPrefix r [47, 47] = false) ∨ (1 < r.length ∧ ∃ a b : UInt8, (∀ h', (⟨r.toArray⟩ : ByteArray)[0]'h' = a) ∧ (∀ h', (⟨r.toArray⟩ : ByteArray)[1]'h' = b) ∧ Lib.hasPrefix r [47, 47] = (((a.toNat : Int) == 47) && ((b.toNat : Int) == 47))) := by
  match r with
  | [] => left; exact ⟨by simp, rfl⟩
  | [a] => left; exact ⟨by simp, by simp [Lib.hasPrefix, List.isPrefixOf]⟩
  | a :: b :: t =>
    right
    refine ⟨by simp, a, b, fun _ => rfl, fun _ => rfl, ?_⟩
    rw [byteq a 47 47 rfl, byteq b 47 47 rfl]
    simp [Lib.hasPrefix, List.isPrefixOf, Bool.beq_comm]

set_option maxHeartbeats 3200000 in
set_option maxRecDepth 100000 in
theorem rabs_any (l : List UInt8) (hl : l.length ≤ 1000000) (w : World) :
    Calls Tryz.prog 7 #[.string ⟨l.toArray⟩] w fun e w' => e = .returned (.bool (absS l)) ∧ Below w.heap.size w w' := by
  obtain ⟨v, hv⟩ : ∃ v, v = absS l := ⟨_, rfl⟩
  rw [← hv]
  unfold absS at hv
  have hsc := rscheme_any l (by omega) w
  cases ho : sch true l with
  | none =>
    rw [ho] at hsc hv
    have HY : Hid (v = false) := Lib.hid hv
    clear hv ho
    go_enter Tryz.func7, Tryz.ntmps7
    go_wp2_with fail
    refine hsc.mono ?_
    rintro e w1 ⟨rfl, hb⟩
    go_wp2_with fail
    go_ret
    exact ⟨ret_bool HY.out.symm, hb⟩
  | some n =>
    have hlt := sch_lt l true n ho
    rw [ho] at hsc hv
    have e1 : schT l (some n) = lowS (l.take n) := rfl
    rw [e1, Option.isSome_some] at hsc
    have hlen : (lowS (l.take n)).length = n := by unfold lowS; simp; omega
    dsimp only at hv
    rw [show n + 1 = (lowS (l.take n)).length + 1 from by rw [hlen]] at hv
    have hls : (lowS (l.take n)).length + 1 ≤ l.length := by omega
    clear e1 ho hlen hlt
    generalize lowS (l.take n) = sc at *
    clear n
    obtain ⟨r0, hr0⟩ : ∃ r0, r0 = l.drop (sc.length + 1) := ⟨_, rfl⟩
    have hdl : r0.length ≤ 1000000 := by rw [hr0]; simp; omega
    rw [← hr0] at hv
    have HR0 := Lib.hid hr0
    clear hr0
    have hf1 := fun w => rfirst_any r0 35 (by omega) w
    have hc1 := cut1_first 35 r0
    have hle1 := cut1_le 35 r0
    unfold absR at hv
    generalize (cut1 35 r0).1 = r1 at *
    generalize (cut1 35 r0).2.1 = bh at *
    generalize firstN 35 r0 = k1 at *
    have hf2 := fun w => rfirst_any r1 63 (by omega) w
    have hc2 := cut1_first 63 r1
    have hle2 := cut1_le 63 r1
    generalize (cut1 63 r1).1 = r at *
    generalize (cut1 63 r1).2.1 = qu at *
    generalize firstN 63 r1 = k2 at *
    have hfb := fun w => rfine_any bh (by omega) w
    have hfq := fun w => rfine_any qu (by omega) w
    have hbn : bh = [] → fineS bh = true := fun h => by rw [h]; exact fineS_nil
    have hqn : qu = [] → fineS qu = true := fun h => by rw [h]; exact fineS_nil
    generalize fineS bh = fb at *
    generalize fineS qu = fq at *
    have HV := Lib.hid hv
    have HC1 := Lib.hid hc1
    have HC2 := Lib.hid hc2
    have HBN := Lib.hid hbn
    have HQN := Lib.hid hqn
    have hrl : r.length ≤ 1000000 := by omega
    have hr1l : r1.length ≤ 1000000 := by omega
    clear hv hc1 hc2 hbn hqn hle1 hle2
    go_enter Tryz.func7, Tryz.ntmps7
    go_wp2_with fail
    refine hsc.mono ?_
    rintro e w1 ⟨rfl, hb1⟩
    clear hsc
    go_upto_region 4 with fail
    go_cut [0] (fun s0 wx => s0 = .string ⟨r0.toArray⟩ ∧ wx = w1)
    case first =>
      go_wp2_with fail
      go_meet
      exact ⟨by rw [HR0.out], rfl⟩
    case rest =>
    obtain ⟨rfl, rfl⟩ := hcut
    clear HR0
    go_wp2_with fail
    refine (hf1 wc).mono ?_
    rintro e w2 ⟨rfl, rfl⟩
    clear hf1
    go_upto_region 6 with fail
    go_cut [34] (fun s34 wx => s34 = .bool (!fb) ∧ wx = wc)
    case first =>
      rcases HC1.out.2 with ⟨g1, g2⟩ | ⟨g1, g2⟩
      · have hfb' := hfb wc
        rw [← g2] at hfb'
        clear g2
        cases fb
        · go_wp2_with fail
          refine hfb'.mono ?_
          rintro e w2 ⟨rfl, rfl⟩
          go_wp2_with fail
          go_meet
          exact ⟨rfl, rfl⟩
        · go_wp2_with fail
          refine hfb'.mono ?_
          rintro e w2 ⟨rfl, rfl⟩
          go_wp2_with fail
          go_meet
          exact ⟨rfl, rfl⟩
      · have hn : ¬ k1 < r0.length := by omega
        have hz := HBN.out g2
        subst hz
        clear g1 g2
        go_wp2_with fail
        go_meet
        exact ⟨rfl, rfl⟩
    case rest =>
    obtain ⟨rfl, rfl⟩ := hcut
    have hk1 : k1 ≤ r0.length := by rcases HC1.out.2 with ⟨g1, g2⟩ | ⟨g1, g2⟩ <;> omega
    cases fb
    · have HY : Hid (v = false) := Lib.hid (by rw [HV.out]; rfl)
      go_wp2_with fail
      go_ret
      exact ⟨ret_bool HY.out.symm, hb1⟩
    · go_upto_region 8 with fail
      go_cut [0] (fun s0 wx => s0 = .string ⟨r1.toArray⟩ ∧ wx = wc)
      case first =>
        go_wp2_with fail
        go_meet
        exact ⟨by rw [← HC1.out.1], rfl⟩
      case rest =>
      obtain ⟨rfl, rfl⟩ := hcut
      clear HC1 hk1 HBN
      go_wp2_with fail
      refine (hf2 wc).mono ?_
      rintro e w2 ⟨rfl, rfl⟩
      clear hf2
      go_upto_region 10 with fail
      go_cut [51] (fun s51 wx => s51 = .bool (!fq) ∧ wx = wc)
      case first =>
        rcases HC2.out.2 with ⟨g1, g2⟩ | ⟨g1, g2⟩
        · have hfq' := hfq wc
          rw [← g2] at hfq'
          clear g2
          cases fq
          · go_wp2_with fail
            refine hfq'.mono ?_
            rintro e w2 ⟨rfl, rfl⟩
            go_wp2_with fail
            go_meet
            exact ⟨rfl, rfl⟩
          · go_wp2_with fail
            refine hfq'.mono ?_
            rintro e w2 ⟨rfl, rfl⟩
            go_wp2_with fail
            go_meet
            exact ⟨rfl, rfl⟩
        · have hn : ¬ k2 < r1.length := by omega
          have hz := HQN.out g2
          subst hz
          clear g1 g2
          go_wp2_with fail
          go_meet
          exact ⟨rfl, rfl⟩
      case rest =>
      obtain ⟨rfl, rfl⟩ := hcut
      have hk2 : k2 ≤ r1.length := by rcases HC2.out.2 with ⟨g1, g2⟩ | ⟨g1, g2⟩ <;> omega
      cases fq
      · have HY : Hid (v = false) := Lib.hid (by rw [HV.out]; rfl)
        go_wp2_with fail
        go_ret
        exact ⟨ret_bool HY.out.symm, hb1⟩
      · go_upto_region 12 with fail
        go_cut [0] (fun s0 wx => s0 = .string ⟨r.toArray⟩ ∧ wx = wc)
        case first =>
          go_wp2_with fail
          go_meet
          exact ⟨by rw [← HC2.out.1], rfl⟩
        case rest =>
        obtain ⟨rfl, rfl⟩ := hcut
        clear HC2 hk2 HQN
        have HY : Hid (v = absQ (kindS sc) r) := Lib.hid (by rw [HV.out]; rfl)
        have hpw := pre2_ways r
        have hQ : absQ (kindS sc) r = if Lib.hasPrefix r [47, 47] then absW (kindS sc) (r.drop 2) else absF (kindS sc) r := rfl
        have HPL := Lib.hid (hasPre2_len r)
        generalize absQ (kindS sc) r = q at *
        generalize Lib.hasPrefix r [47, 47] = pre at *
        have HQ := Lib.hid hQ
        have HPW := Lib.hid hpw
        clear hQ hpw HV
        go_upto_region 13 with fail
        go_cut [6] (fun s6 wx => s6 = .bool pre ∧ wx = wc)
        case first =>
          rcases HPW.out with ⟨g1, g2⟩ | ⟨g1, a, b, ga, gb, g2⟩
          · subst g2
            go_wp2_with fail
            go_meet
            exact ⟨rfl, rfl⟩
          · subst g2
            generalize gx : ((a.toNat : Int) == 47) = xa at *
            generalize gy : ((b.toNat : Int) == 47) = xb at *
            cases xa
            · go_wp2_with fail
              go_meet
              exact ⟨rfl, rfl⟩
            · go_wp2_with fail
              go_meet
              exact ⟨rfl, rfl⟩
        case rest =>
        obtain ⟨rfl, rfl⟩ := hcut
        clear HPW
        obtain ⟨x, hx⟩ : ∃ x, x = r.drop 2 := ⟨_, rfl⟩
        have hxl : x.length ≤ 1000000 := by rw [hx]; simp; omega
        obtain ⟨nm, hnm⟩ : ∃ nm, nm = if pre = true then x.take (firstN 47 x) else [] := ⟨_, rfl⟩
        obtain ⟨pt, hpt⟩ : ∃ pt, pt = if pre = true then x.drop (firstN 47 x) else r := ⟨_, rfl⟩
        have hnl : nm.length ≤ 1000000 := by rw [hnm]; split <;> simp; omega
        have hpl : pt.length ≤ 1000000 := by
          rw [hpt]; split
          · simp; omega
          · exact hrl
        have HX := Lib.hid hx
        have HNM := Lib.hid hnm
        have HPT := Lib.hid hpt
        have hfn := firstN_le 47 x
        have hf3 := fun w => rfirst_any x 47 (by omega) w
        clear hx hnm hpt
        go_upto_if 69 with fail
        go_cut [5, 7, 8] (fun s5 s7 s8 wx => s7 = .string ⟨nm.toArray⟩ ∧ s8 = .string ⟨pt.toArray⟩ ∧ wx = wc)
        case first =>
          cases pre
          · go_wp2_with fail
            go_meet
            exact ⟨by rw [HNM.out]; rfl, by rw [HPT.out]; rfl, rfl⟩
          · have hrl2 := HPL.out rfl
            have hf3' := hf3 wc
            rw [HX.out] at hf3' hfn
            have hxx : (r.drop 2).length = r.length - 2 := by simp
            have HNM' : Hid (nm = (r.drop 2).take (firstN 47 (r.drop 2))) := Lib.hid (by rw [HNM.out, ← HX.out]; rfl)
            have HPT' : Hid (pt = r.drop (firstN 47 (r.drop 2) + 2)) := Lib.hid (by rw [HPT.out, ← HX.out, HX.out, List.drop_drop]; simp [Nat.add_comm])
            generalize firstN 47 (r.drop 2) = kk at *
            rw [hxx] at hfn
            clear hf3 HX HNM HPT hxx
            go_wp2_with fail
            refine hf3'.mono ?_
            rintro e w2 ⟨rfl, rfl⟩
            go_wp2_with fail
            go_meet
            exact ⟨by rw [HNM'.out]; simp, by rw [HPT'.out], rfl⟩
        case rest =>
        obtain ⟨rfl, rfl, rfl⟩ := hcut
        have hfp := rfine_any pt (by omega) wc
        have hsv := fun w => rserver_any nm hnl w
        have hho := fun w => rhost_any nm hnl w
        have HW : Hid (v = (fineS pt && (if pre = true then (if kindS sc = 0 then serverS nm else ((nm == []) || (if kindS sc = 1 then hostS nm else serverS nm))) else (if kindS sc = 0 then false else if kindS sc = 1 then (r.head? == some 47) else true)))) := Lib.hid (by
          rw [HY.out, HQ.out]
          cases pre
          · rw [if_neg (by decide), if_neg (by decide), HPT.out, if_neg (by decide)]; rfl
          · rw [if_pos rfl, if_pos rfl, HPT.out, HNM.out, if_pos rfl, if_pos rfl, HX.out]; rfl)
        have HR : Hid ((r.length = 0 ∧ (r.head? == some 47) = false) ∨ (0 < r.length ∧ ∃ a : UInt8, (∀ h', (⟨r.toArray⟩ : ByteArray)[0]'h' = a) ∧ (r.head? == some 47) = ((a.toNat : Int) == 47))) := Lib.hid (by
          cases r with
          | nil => left; exact ⟨rfl, rfl⟩
          | cons a b =>
            right
            refine ⟨by simp, a, fun _ => rfl, ?_⟩
            rw [byteq a 47 47 rfl]; rfl)
        have hnn : nm = [] ∨ (0 < nm.length ∧ (nm == []) = false ∧ ((nm.length : Int) == 0) = false) := by
          cases nm with
          | nil => left; rfl
          | cons a b => right; exact ⟨by simp, rfl, by simp; omega⟩
        have HNN := Lib.hid hnn
        clear hnn HPL HX HNM HPT HQ HY hf3 hfn hxl hfb hfq hls hdl hr1l
        generalize serverS nm = sv at *
        generalize hostS nm = ho at *
        generalize fineS pt = fp at *
        generalize (r.head? == some 47) = h47 at *
        cases fp
        · have HZ : Hid (v = false) := Lib.hid (by rw [HW.out]; rfl)
          go_wp2_with fail
          refine hfp.mono ?_
          rintro e w7 ⟨rfl, rfl⟩
          go_wp2_with fail
          go_ret
          exact ⟨ret_bool HZ.out.symm, hb1⟩
        · have hv : v = (if pre = true then (if kindS sc = 0 then sv else ((nm == []) || (if kindS sc = 1 then ho else sv))) else (if kindS sc = 0 then false else if kindS sc = 1 then h47 else true)) := by rw [HW.out, Bool.true_and]
          clear HW
          rcases kind_ways sc with hk | hk | ⟨h1, h2, h3, h4, h5, h6, hk⟩
          · have hk0 : kindS sc = 0 := if_pos hk
            rw [hk0, if_pos rfl, if_pos rfl] at hv
            clear hk0 hho HNN HR
            cases pre
            · have HZ : Hid (v = false) := Lib.hid hv
              clear hv
              rcases hk with rfl | rfl | rfl | rfl | rfl
              all_goals
                go_wp2_with fail
                refine hfp.mono ?_
                rintro e w7 ⟨rfl, rfl⟩
                go_wp2_with fail
                go_ret
                exact ⟨ret_bool HZ.out.symm, hb1⟩
            · have HZ : Hid (v = sv) := Lib.hid hv
              clear hv
              rcases hk with rfl | rfl | rfl | rfl | rfl
              all_goals
                go_wp2_with fail
                refine hfp.mono ?_
                rintro e w7 ⟨rfl, rfl⟩
                go_wp2_with fail
                refine (hsv _).mono ?_
                rintro e w8 ⟨rfl, hb8⟩
                go_wp2_with fail
                go_ret
                exact ⟨ret_bool HZ.out.symm, below_trans hb1 hb8⟩
          · have hk1 : kindS sc = 1 := by rw [hk]; decide
            rw [hk1] at hv
            subst hk
            clear hk1 hsv
            cases pre
            · have HZ : Hid (v = h47) := Lib.hid hv
              clear hv HNN hho
              rcases HR.out with ⟨g1, g2⟩ | ⟨g1, a, ga, g2⟩
              · subst g2
                go_wp2_with fail
                refine hfp.mono ?_
                rintro e w7 ⟨rfl, rfl⟩
                go_wp2_with fail
                go_ret
                exact ⟨ret_bool HZ.out.symm, hb1⟩
              · subst g2
                go_wp2_with fail
                refine hfp.mono ?_
                rintro e w7 ⟨rfl, rfl⟩
                go_wp2_with fail
                go_ret
                exact ⟨ret_bool HZ.out.symm, hb1⟩
            · have HZ : Hid (v = ((nm == []) || ho)) := Lib.hid hv
              clear hv HR
              rcases HNN.out with g | ⟨g1, g2, g3⟩
              · subst g
                have HZ2 : Hid (v = true) := Lib.hid (by rw [HZ.out]; rfl)
                clear hho HNN
                go_wp2_with fail
                refine hfp.mono ?_
                rintro e w7 ⟨rfl, rfl⟩
                go_wp2_with fail
                go_ret
                exact ⟨ret_bool HZ2.out.symm, hb1⟩
              · have HZ2 : Hid (v = ho) := Lib.hid (by rw [HZ.out, g2]; rfl)
                clear g2 HNN
                go_wp2_with fail
                refine hfp.mono ?_
                rintro e w7 ⟨rfl, rfl⟩
                go_wp2_with fail
                refine (hho _).mono ?_
                rintro e w8 ⟨rfl, hb8⟩
                go_wp2_with fail
                go_ret
                exact ⟨ret_bool HZ2.out.symm, below_trans hb1 hb8⟩
          · rw [hk] at hv
            have hn1 : (sc == [102, 116, 112]) = false := by simpa using h1
            have hn2 : (sc == [104, 116, 116, 112]) = false := by simpa using h2
            have hn3 : (sc == [104, 116, 116, 112, 115]) = false := by simpa using h3
            have hn4 : (sc == [119, 115]) = false := by simpa using h4
            have hn5 : (sc == [119, 115, 115]) = false := by simpa using h5
            have hn6 : (sc == [102, 105, 108, 101]) = false := by simpa using h6
            clear hk h1 h2 h3 h4 h5 h6 hho HR
            cases pre
            · have HZ : Hid (v = true) := Lib.hid hv
              clear hv HNN hsv
              go_wp2_with fail
              refine hfp.mono ?_
              rintro e w7 ⟨rfl, rfl⟩
              go_wp2_with fail
              go_ret
              exact ⟨ret_bool HZ.out.symm, hb1⟩
            · have HZ : Hid (v = ((nm == []) || sv)) := Lib.hid hv
              clear hv
              rcases HNN.out with g | ⟨g1, g2, g3⟩
              · subst g
                have HZ2 : Hid (v = true) := Lib.hid (by rw [HZ.out]; rfl)
                clear hsv HNN
                go_wp2_with fail
                refine hfp.mono ?_
                rintro e w7 ⟨rfl, rfl⟩
                go_wp2_with fail
                go_ret
                exact ⟨ret_bool HZ2.out.symm, hb1⟩
              · have HZ2 : Hid (v = sv) := Lib.hid (by rw [HZ.out, g2]; rfl)
                clear g2 HNN
                go_wp2_with fail
                refine hfp.mono ?_
                rintro e w7 ⟨rfl, rfl⟩
                go_wp2_with fail
                refine (hsv _).mono ?_
                rintro e w8 ⟨rfl, hb8⟩
                go_wp2_with fail
                go_ret
                exact ⟨ret_bool HZ2.out.symm, below_trans hb1 hb8⟩
end Go.Proofs.YtoghjhaagallkaaGreatDoor.link
