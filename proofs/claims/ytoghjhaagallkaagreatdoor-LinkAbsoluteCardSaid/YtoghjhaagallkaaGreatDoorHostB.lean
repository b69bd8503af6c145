/- The contract of link.Host, of a text that begins with no bracket; and whole. -/
import Derived.Test.YtoghjhaagallkaaGreatDoorHost
namespace Go.Proofs.YtoghjhaagallkaaGreatDoor.link
open Go.ChangeShapes Go.WideShapes Go.ChangeAt Go.RowKit Go.Lib Go.Proofs.YtoghjhaagallkaaGreatDoor.str

def labGo (x : List UInt8) (t : Bool) : Bool := x.all hostC && t
theorem labGo_cons (c : UInt8) (r : List UInt8) (t : Bool) : labGo (c :: r) t = (hostC c && labGo r t) := by unfold labGo; rw [List.all_cons, Bool.and_assoc]
def labs (ms : List (List UInt8)) (z : Bool) : Bool := ms.all labOk && z
theorem labs_cons (x : List UInt8) (r : List (List UInt8)) (z : Bool) : labs (x :: r) z = (!(x == []) && labGo x (labs r z)) := by
  unfold labs labGo labOk; rw [List.all_cons, Bool.and_assoc, Bool.and_assoc]

set_option maxHeartbeats 3200000 in
set_option maxRecDepth 100000 in
theorem host_plain (l : List UInt8) (h91 : l.head? ≠ some 91) (hl : l.length ≤ 1000000) (w : World) (hG : G w) (hE : GE w) (hU : GU w) :
    Calls Tryz.prog 14 #[.string ⟨l.toArray⟩] w fun e w' => e = .returned (.bool (validD l && hostL (spl 46 [] l))) ∧ Below w.heap.size w w' := by
  obtain ⟨v, hv⟩ : ∃ v, v = (validD l && hostL (spl 46 [] l)) := ⟨_, rfl⟩
  rw [← hv]
  have hp := cutpre_any l 91 w
  have eb : (l.head? == some 91) = false := by simpa using h91
  rw [if_neg h91, eb] at hp
  clear eb h91
  have hva := Go.Proofs.YtoghjhaagallkaaGreatDoor.utf.tvalid_any l (by omega) w hU
  have hs := fun w => split_row l 46 hl w
  have hsm := spl_small 46 l []
  have hps := spl_pos 46 l []
  have hspn : (spl 46 [] l).length ≤ 1000001 := by rw [spl_len]; have := List.count_le_length (a := (46 : UInt8)) (l := l); omega
  generalize spl 46 [] l = ls at *
  have HS := Lib.hid (show ∀ x ∈ ls, x.length ≤ 1000000 from fun x hx => by have := hsm x hx; simp at this; omega)
  clear hsm
  cases hvd : validD l
  · rw [hvd] at hva hv
    have HY : Hid (v = false) := Lib.hid hv
    clear hv hvd hs
    go_enter Tryz.func14, Tryz.ntmps14
    go_wp2_with fail
    refine hp.mono ?_
    rintro e w' ⟨rfl, rfl⟩
    go_wp2_with fail
    refine hva.mono ?_
    rintro e w' ⟨rfl, hb⟩
    go_wp2_with fail
    go_ret
    exact ⟨ret_bool HY.out.symm, hb⟩
  · rw [hvd, Bool.true_and] at hv
    rw [hvd] at hva
    have hways := lastN_ways ls hps
    have hbounds := lastN_bounds ls hps
    unfold hostL at hv
    have hml : (ls.take (lastN ls)).length = lastN ls := by rw [List.length_take]; omega
    have HMM : Hid (∀ x ∈ ls.take (lastN ls), x ∈ ls) := Lib.hid (fun x hx => List.mem_of_mem_take hx)
    have HMA : Hid (∀ w b, StrAt w b ls → StrAt w b (ls.take (lastN ls))) := Lib.hid (fun w b h => h.take _)
    generalize ls.take (lastN ls) = ms at *
    have HV : Hid (v = labs ms (tailOk ls ms)) := Lib.hid hv
    have HW := Lib.hid hways
    clear hv hvd hways
    go_enter Tryz.func14, Tryz.ntmps14
    go_wp2_with fail
    refine hp.mono ?_
    rintro e w' ⟨rfl, rfl⟩
    go_wp2_with fail
    refine hva.mono ?_
    rintro e w1 ⟨rfl, hb1⟩
    have G1 := hG.below hb1
    have E1 := hE.below hb1
    clear hp hva
    go_wp2_with fail
    refine (hs w1 G1).mono ?_
    rintro e w2 ⟨b, cap, rfl, hst, hb2, hcap⟩
    have hb12 := below_trans hb1 hb2
    have G2 := G1.below hb2
    have E2 := E1.below hb2
    clear hs
    have HST := Lib.hid hst
    have hbl := hst.lt hps
    clear hst hb1 hb2 G1 E1
    have hcl : ∀ y, ls[ls.length - 1]? = some y → w2.cell? ⟨b, ls.length - 1, none⟩ = some (.string ⟨y.toArray⟩) := by
      intro y hy
      have hj : ls.length - 1 < ls.length := by omega
      rw [List.getElem?_eq_getElem hj] at hy
      rw [HST.out _ hj, Option.some.inj hy]
    have HCL := Lib.hid hcl
    clear hcl
    go_upto_region 10 with fail
    go_cut [45] (fun s45 wx => s45 = .bool (decide (ms.length < ls.length)) ∧ wx = w2)
    case first =>
      rcases HW.out with ⟨g1, g2⟩ | ⟨y, g1, gy, ⟨g2, g3⟩ | ⟨g2, g3⟩⟩
      · have hnot : ¬ (1 : Int) < ls.length := by omega
        have HD : Hid (decide (ms.length < ls.length) = false) := Lib.hid (decide_eq_false (by omega))
        clear g1 g2 hml hbounds
        go_wp2_with fail
        go_meet
        exact ⟨by rw [HD.out], rfl⟩
      · subst g2
        have hcell := HCL.out _ gy
        have hlt1 : (1 : Int) < ls.length := by omega
        have HD : Hid (decide (ms.length < ls.length) = true) := Lib.hid (decide_eq_true (by omega))
        clear g3 gy hml hbounds
        go_wp2_with fail
        go_meet
        exact ⟨by rw [HD.out], rfl⟩
      · have hcell := HCL.out _ gy
        have hne : y.isEmpty = false := by simp [g2]
        have HD : Hid (decide (ms.length < ls.length) = false) := Lib.hid (decide_eq_false (by omega))
        have hlt1 : (1 : Int) < ls.length := by omega
        clear g3 gy hml hbounds
        go_wp2_with fail
        go_meet
        exact ⟨by rw [HD.out], rfl⟩
    case rest =>
      obtain ⟨rfl, rfl⟩ := hcut
      have hw : (ms.length < ls.length ∧ ms.length = ls.length - 1) ∨ ms.length = ls.length := by
        rcases HW.out with ⟨g1, g2⟩ | ⟨y, g1, gy, ⟨g2, g3⟩ | ⟨g2, g3⟩⟩ <;> omega
      have hmp : 0 < ms.length := by omega
      have hmle : ms.length ≤ ls.length := by omega
      have hln : 1 ≤ ls.length := hps
      have HML := Lib.hid hml
      have HWW := Lib.hid hw
      clear hml hbounds hw HW
      go_upto_if 45 with fail
      go_cut [6] (fun s6 wx => s6 = .slice (some ⟨b, 0, none⟩) ms.length cap ∧ wx = wc)
      case first =>
        rcases HWW.out with ⟨g1, g2⟩ | g2
        · rw [decide_eq_true g1]
          have HG := Lib.hid g2
          clear g2
          go_wp2_with fail
          go_meet
          exact ⟨by rw [HG.out], rfl⟩
        · rw [decide_eq_false (by omega : ¬ ms.length < ls.length)]
          have HG := Lib.hid g2
          clear g2
          go_wp2_with fail
          go_meet
          exact ⟨by rw [HG.out], rfl⟩
      case rest =>
        obtain ⟨rfl, rfl⟩ := hcut
        go_wp2_with fail
        have HSM : Hid (StrAt wc b ms) := Lib.hid (HMA.out _ _ HST.out)
        go_loopw [52] (fun s wr => ∃ k : Nat, s = .int .i64 k ∧ k ≤ ms.length ∧ Hid (v = labs (ms.drop k) (tailOk ls ms)) ∧ wr = wc) (fun s _ => ms.length - (RowKit.intOf s).toNat)
        case atStart => exact ⟨0, rfl, by omega, HV, rfl⟩
        case round =>
          obtain ⟨k, rfl, hk, hh, rfl⟩ := hrel
          by_cases hlt : k < ms.length
          · have hcell := HSM.out k hlt
            have hx := hh.out
            have hgs := HS.out ms[k] (HMM.out _ (List.getElem_mem hlt))
            rw [List.drop_eq_getElem_cons hlt, labs_cons] at hx
            generalize ms[k] = x at *
            obtain ⟨z, hz⟩ : ∃ z, z = labs (ms.drop (k + 1)) (tailOk ls ms) := ⟨_, rfl⟩
            rw [← hz] at hx
            have HZ := Lib.hid hz
            clear hz hh
            by_cases hxe : x = []
            · subst hxe
              have HY : Hid (v = false) := Lib.hid hx
              clear hx
              go_wp2_with fail
              go_ret
              exact ⟨ret_bool HY.out.symm, hb12⟩
            · have hemp : x.isEmpty = false := by simp [hxe]
              have HX : Hid (v = labGo x z) := Lib.hid (by
                rw [hx, show (x == []) = false from by simp [hxe]]; rfl)
              clear hx hxe
              go_wp2_with fail
              go_loop [60] (fun s => ∃ j : Nat, s = .int .i64 j ∧ j ≤ x.length ∧ Hid (v = labGo (x.drop j) z)) (fun s => x.length - (RowKit.intOf s).toNat)
              case atStart => exact ⟨0, rfl, by omega, HX⟩
              case round =>
                obtain ⟨j, rfl, hj, hh⟩ := hrel
                by_cases hjl : j < x.length
                · obtain ⟨c, rest, hd1, hd2, hidx⟩ := byte_at x j hjl
                  have hx := hh.out
                  rw [hd1, labGo_cons, ← hd2] at hx
                  have hcall := plain_any c wr
                  have hlt8 := c.toNat_lt
                  have t45 : ((c.toNat : Int) == 45) = (c == 45) := byteq c 45 45 rfl
                  have t95 : ((c.toNat : Int) == 95) = (c == 95) := byteq c 95 95 rfl
                  rcases hostC_ways c with ⟨g1, g2⟩ | ⟨g1, g2, g3⟩ | ⟨g1, g2, g3, g4⟩ | ⟨g1, g2, g3, g4⟩ | ⟨g1, g2, g3, g4, g5⟩
                  · have HY : Hid (v = labGo (x.drop (j + 1)) z) := Lib.hid (by rw [hx, g2]; rfl)
                    clear hx hd1 hd2 hh t45 t95 g2 hcall
                    go_wp2_with fail
                    go_round
                    case rel => exact ⟨j + 1, by go_num, by omega, HY⟩
                    case measure => simp [RowKit.intOf]; omega
                  · have HY : Hid (v = labGo (x.drop (j + 1)) z) := Lib.hid (by rw [hx, g3]; rfl)
                    rw [g2] at hcall
                    clear hx hd1 hd2 hh t45 t95 g2 g3
                    go_wp2_with fail
                    refine hcall.mono ?_
                    rintro e w' ⟨rfl, rfl⟩
                    go_wp2_with fail
                    go_round
                    case rel => exact ⟨j + 1, by go_num, by omega, HY⟩
                    case measure => simp [RowKit.intOf]; omega
                  · have HY : Hid (v = labGo (x.drop (j + 1)) z) := Lib.hid (by rw [hx, g4]; rfl)
                    rw [g2] at hcall
                    clear hx hd1 hd2 hh t45 t95 g2 g4
                    subst g3
                    go_wp2_with fail
                    refine hcall.mono ?_
                    rintro e w' ⟨rfl, rfl⟩
                    go_wp2_with fail
                    go_round
                    case rel => exact ⟨j + 1, by go_num, by omega, HY⟩
                    case measure => simp [RowKit.intOf]; omega
                  · have HY : Hid (v = labGo (x.drop (j + 1)) z) := Lib.hid (by rw [hx, g4]; rfl)
                    rw [g2] at hcall
                    clear hx hd1 hd2 hh t45 t95 g2 g4
                    subst g3
                    go_wp2_with fail
                    refine hcall.mono ?_
                    rintro e w' ⟨rfl, rfl⟩
                    go_wp2_with fail
                    go_round
                    case rel => exact ⟨j + 1, by go_num, by omega, HY⟩
                    case measure => simp [RowKit.intOf]; omega
                  · have HY : Hid (v = false) := Lib.hid (by rw [hx, g5]; rfl)
                    rw [g2] at hcall
                    have u45 : ((c.toNat : Int) != 45) = true := by rw [bne, t45]; simpa using g3
                    have u95 : ((c.toNat : Int) != 95) = true := by rw [bne, t95]; simpa using g4
                    clear hx hd1 hd2 hh t45 t95 g2 g3 g4 g5
                    go_wp2_with fail
                    refine hcall.mono ?_
                    rintro e w' ⟨rfl, rfl⟩
                    go_wp2_with fail
                    go_ret
                    exact ⟨ret_bool HY.out.symm, hb12⟩
                · have HY : Hid (v = labs (ms.drop (k + 1)) (tailOk ls ms)) := Lib.hid (by rw [hh.out, List.drop_eq_nil_of_le (by omega)]; exact HZ.out)
                  clear hh
                  go_wp2_with fail
                  go_roundw
                  case rel => exact ⟨k + 1, by go_num, by omega, HY, by first | rfl | trivial⟩
                  case measure => simp [RowKit.intOf]; omega
          · have hj : ms.length - 1 < ms.length := by omega
            have hx : v = tailOk ls ms := by rw [hh.out, List.drop_eq_nil_of_le (by omega)]; rfl
            have hcell := HSM.out _ hj
            have hgs := HS.out ms[ms.length - 1] (HMM.out _ (List.getElem_mem hj))
            unfold tailOk at hx
            rw [List.getD_eq_getElem?_getD, List.getElem?_eq_getElem hj, Option.getD_some] at hx
            generalize ms[ms.length - 1] = y at *
            have hdg := digs_any y (by omega) wr
            have hfo := fun w h1 h2 => four_any ls b cap hspn HS.out hps w h1 h2
            generalize fourS ls = f at *
            generalize digsB y = d at *
            have HX := Lib.hid hx
            clear hx hh HV
            cases d
            · have HY : Hid (v = true) := Lib.hid HX.out
              go_wp2_with fail
              refine hdg.mono ?_
              rintro e w3 ⟨rfl, hb3⟩
              clear hdg hfo
              go_wp2_with fail
              go_ret
              exact ⟨ret_bool HY.out.symm, below_trans hb12 hb3⟩
            · by_cases hle : ls.length = ms.length
              · have HY : Hid (v = f) := Lib.hid (by rw [HX.out, decide_eq_true hle]; rfl)
                have hte : ((ls.length : Int) == ms.length) = true := by simp; omega
                have HLE := Lib.hid hle
                clear hle
                go_wp2_with fail
                refine hdg.mono ?_
                rintro e w3 ⟨rfl, hb3⟩
                have hfo' := hfo w3 (HST.out.below hb3) (E2.below hb3)
                clear hdg hfo
                go_wp2_with fail
                refine hfo'.mono ?_
                rintro e w4 ⟨rfl, hb4⟩
                go_wp2_with fail
                go_ret
                exact ⟨ret_bool HY.out.symm, below_trans hb12 (below_trans hb3 hb4)⟩
              · have HY : Hid (v = false) := Lib.hid (by rw [HX.out, decide_eq_false hle]; rfl)
                have hte : ((ls.length : Int) == ms.length) = false := by simp; omega
                clear hle
                go_wp2_with fail
                refine hdg.mono ?_
                rintro e w3 ⟨rfl, hb3⟩
                clear hdg hfo
                go_wp2_with fail
                go_ret
                exact ⟨ret_bool HY.out.symm, below_trans hb12 hb3⟩

theorem host_any (l : List UInt8) (hl : l.length ≤ 1000000) (w : World) (hG : G w) (hE : GE w) (hU : GU w) :
    Calls Tryz.prog 14 #[.string ⟨l.toArray⟩] w fun e w' => e = .returned (.bool (hostS l)) ∧ Below w.heap.size w w' := by
  unfold hostS
  by_cases h : l.head? = some 91
  · rw [if_pos h]
    cases l with
    | nil => cases h
    | cons a t =>
      cases h
      exact host_brack t (by simp at hl; omega) w hG
  · rw [if_neg h]
    exact host_plain l h hl w hG hE hU
end Go.Proofs.YtoghjhaagallkaaGreatDoor.link
