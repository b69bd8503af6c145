/- The contract of the reference's Host. -/
import Derived.Test.YtoghjhaagallkaaGreatDoorHostB
namespace Go.Proofs.YtoghjhaagallkaaGreatDoor.link
open Go.ChangeShapes Go.WideShapes Go.ChangeAt Go.RowKit Go.Lib Go.Proofs.YtoghjhaagallkaaGreatDoor.str

set_option maxHeartbeats 3200000 in
set_option maxRecDepth 100000 in
theorem rhost_brack (t : List UInt8) (hl : t.length ≤ 1000000) (w : World) :
    Calls Tryz.prog 20 #[.string ⟨(91 :: t).toArray⟩] w fun e w' => e = .returned (.bool (brackS t)) ∧ Below w.heap.size w w' := by
  obtain ⟨v, hv⟩ : ∃ v, v = brackS t := ⟨_, rfl⟩
  rw [← hv]
  unfold brackS at hv
  have h6 := rsix_any t.dropLast (by simp; omega) w
  obtain ⟨l, hlx⟩ : ∃ l, l = 91 :: t := ⟨_, rfl⟩
  rw [← hlx]
  have hl0 : l.length = t.length + 1 := by rw [hlx]; rfl
  have hidx0 : ∀ h', (⟨l.toArray⟩ : ByteArray)[0]'h' = 91 := by subst hlx; exact fun _ => rfl
  by_cases ht : t = []
  · have HY : Hid (v = false) := Lib.hid (by rw [hv, ht]; rfl)
    have hl1 : l.length ≤ 1 := by rw [hl0, ht]; simp
    have hl2 : 0 < l.length := by omega
    clear hv h6 hlx ht hl0
    go_enter Tryz.func20, Tryz.ntmps20
    go_wp2_with fail
    go_ret
    exact ⟨ret_bool HY.out.symm, Below.refl _ _⟩
  · have htl : 0 < t.length := List.length_pos_iff.2 ht
    obtain ⟨c, hc⟩ : ∃ c, t.getLast? = some c := by cases h : t.getLast? with | none => exact absurd (List.getLast?_eq_none_iff.1 h) ht | some c => exact ⟨c, rfl⟩
    have hidx1 : ∀ h', (⟨l.toArray⟩ : ByteArray)[l.length - 1]'h' = c := by
      intro h'
      have : l[l.length - 1]? = some c := by
        rw [hl0, hlx, show t.length + 1 - 1 = (t.length - 1) + 1 from by omega, List.getElem?_cons_succ, ← List.getLast?_eq_getElem?, hc]
      have h2 : l.length - 1 < l.length := by omega
      rw [List.getElem?_eq_getElem h2] at this
      exact Option.some.inj this
    have hd : l.tail.take (l.length - 1 - 1) = t.dropLast := by rw [hlx, List.dropLast_eq_take]; simp
    have tc : ((c.toNat : Int) == 93) = (c == 93) := byteq c 93 93 rfl
    rw [hc] at hv
    have e2 : (some c == some (93 : UInt8)) = (c == 93) := rfl
    rw [e2, ← tc] at hv
    cases hcc : ((c.toNat : Int) == 93)
    · have HY : Hid (v = false) := Lib.hid (by rw [hv, hcc]; rfl)
      clear hv tc e2 hd h6
      have hl1 : 1 < l.length := by omega
      have hl2 : l.length ≤ 1000001 := by omega
      clear hlx hc ht hl0
      go_enter Tryz.func20, Tryz.ntmps20
      go_wp2_with fail
      go_ret
      exact ⟨ret_bool HY.out.symm, Below.refl _ _⟩
    · have HY : Hid (v = sixS t.dropLast) := Lib.hid (by rw [hv, hcc]; rfl)
      have hl1 : 1 < l.length := by omega
      have hl2 : l.length ≤ 1000001 := by omega
      rw [← hd] at HY h6
      clear hv tc e2 hlx hc ht hl0 hd
      go_enter Tryz.func20, Tryz.ntmps20
      go_wp2_with fail
      refine h6.mono ?_
      rintro e w' ⟨rfl, hb⟩
      go_wp2_with fail
      go_ret
      exact ⟨ret_bool HY.out.symm, hb⟩

set_option maxHeartbeats 3200000 in
set_option maxRecDepth 100000 in
theorem rhost_plain (l : List UInt8) (h91 : l.head? ≠ some 91) (hl : l.length ≤ 1000000) (w : World) :
    Calls Tryz.prog 20 #[.string ⟨l.toArray⟩] w fun e w' => e = .returned (.bool (validD l && hostL (spl 46 [] l))) ∧ Below w.heap.size w w' := by
  obtain ⟨v, hv⟩ : ∃ v, v = (validD l && hostL (spl 46 [] l)) := ⟨_, rfl⟩
  rw [← hv]
  have hva := Go.Proofs.YtoghjhaagallkaaGreatDoor.utf.rvalid_any l (by omega) w
  have hs := fun w => rsplit_row l 46 hl w
  have hsm := spl_small 46 l []
  have hps := spl_pos 46 l []
  have hspn : (spl 46 [] l).length ≤ 1000001 := by rw [spl_len]; have := List.count_le_length (a := (46 : UInt8)) (l := l); omega
  generalize spl 46 [] l = ls at *
  have HS := Lib.hid (show ∀ x ∈ ls, x.length ≤ 1000000 from fun x hx => by have := hsm x hx; simp at this; omega)
  clear hsm
  have hidx0 : l.length = 0 ∨ (0 < l.length ∧ ∃ c : UInt8, (∀ h', (⟨l.toArray⟩ : ByteArray)[0]'h' = c) ∧ ((c.toNat : Int) == 91) = false) := by
    cases l with
    | nil => left; rfl
    | cons a r =>
      right
      refine ⟨by simp, a, fun _ => rfl, ?_⟩
      rw [byteq a 91 91 rfl]
      simpa using h91
  clear h91
  have HI := Lib.hid hidx0
  clear hidx0
  cases hvd : validD l
  · rw [hvd] at hva hv
    have HY : Hid (v = false) := Lib.hid hv
    clear hv hvd hs
    rcases HI.out with h0 | ⟨h0, c, hidx, hc⟩
    · go_enter Tryz.func20, Tryz.ntmps20
      have hn : ¬ 0 < l.length := by omega
      clear h0
      go_wp2_with fail
      refine hva.mono ?_
      rintro e w' ⟨rfl, rfl⟩
      go_wp2_with fail
      go_ret
      exact ⟨ret_bool HY.out.symm, Below.refl _ _⟩
    · go_enter Tryz.func20, Tryz.ntmps20
      go_wp2_with fail
      refine hva.mono ?_
      rintro e w' ⟨rfl, rfl⟩
      go_wp2_with fail
      go_ret
      exact ⟨ret_bool HY.out.symm, Below.refl _ _⟩
  · rw [hvd, Bool.true_and] at hv
    rw [hvd] at hva
    have hways := lastN_ways ls hps
    have hbounds := lastN_bounds ls hps
    unfold hostL at hv
    have hml : (ls.take (lastN ls)).length = lastN ls := by rw [List.length_take]; omega
    have HMM : Hid (∀ x ∈ ls.take (lastN ls), x ∈ ls) := Lib.hid (fun x hx => List.mem_of_mem_take hx)
    have HMA : Hid (∀ w b, StrAt w b ls → StrAt w b (ls.take (lastN ls))) := Lib.hid (fun w b h => h.take _)
    generalize ls.take (lastN ls) = ms at *
    have HV : Hid (v = labs ms (tailOk ls ms)) := Lib.hid hv
    have HW := Lib.hid hways
    clear hv hvd hways
    go_enter Tryz.func20, Tryz.ntmps20
    go_upto_region 1 with fail
    go_cut [16] (fun s16 wx => s16 = .bool false ∧ wx = w)
    case first =>
      rcases HI.out with h0 | ⟨h0, c, hidx, hc⟩
      · have hn : ¬ 0 < l.length := by omega
        clear h0
        go_wp2_with fail
        go_meet
        exact ⟨rfl, rfl⟩
      · go_wp2_with fail
        go_meet
        exact ⟨rfl, rfl⟩
    case rest =>
      obtain ⟨rfl, rfl⟩ := hcut
      go_wp2_with fail
      refine hva.mono ?_
      rintro e w' ⟨rfl, rfl⟩
      clear hva
      go_wp2_with fail
      refine (hs wc).mono ?_
      rintro e w2 ⟨b, cap, rfl, hst, hb12⟩
      clear hs
      have HST := Lib.hid hst
      have hbl := hst.lt hps
      have hcl : ∀ y, ls[ls.length - 1]? = some y → w2.cell? ⟨b, ls.length - 1, none⟩ = some (.string ⟨y.toArray⟩) := by
        intro y hy
        have hj : ls.length - 1 < ls.length := by omega
        rw [List.getElem?_eq_getElem hj] at hy
        rw [HST.out _ hj, Option.some.inj hy]
      have HCL := Lib.hid hcl
      clear hcl hst
      go_upto_region 7 with fail
      go_cut [53] (fun s53 wx => s53 = .bool (decide (ms.length < ls.length)) ∧ wx = w2)
      case first =>
        rcases HW.out with ⟨g1, g2⟩ | ⟨y, g1, gy, ⟨g2, g3⟩ | ⟨g2, g3⟩⟩
        · have hnot : ¬ (1 : Int) < ls.length := by omega
          have HD : Hid (decide (ms.length < ls.length) = false) := Lib.hid (decide_eq_false (by omega))
          clear g1 g2 hml hbounds
          go_wp2_with fail
          go_meet
          exact ⟨by rw [HD.out], rfl⟩
        · subst g2
          have hcell := HCL.out _ gy
          have hlt1 : (1 : Int) < ls.length := by omega
          have HD : Hid (decide (ms.length < ls.length) = true) := Lib.hid (decide_eq_true (by omega))
          clear g3 gy hml hbounds
          go_wp2_with fail
          go_meet
          exact ⟨by rw [HD.out], rfl⟩
        · have hcell := HCL.out _ gy
          have hne : ((y.length : Int) == 0) = false := by simp; exact g2
          have HD : Hid (decide (ms.length < ls.length) = false) := Lib.hid (decide_eq_false (by omega))
          have hlt1 : (1 : Int) < ls.length := by omega
          clear g3 gy hml hbounds g2
          go_wp2_with fail
          go_meet
          exact ⟨by rw [HD.out], rfl⟩
      case rest =>
        obtain ⟨rfl, rfl⟩ := hcut
        have hw : (ms.length < ls.length ∧ ms.length = ls.length - 1) ∨ ms.length = ls.length := by
          rcases HW.out with ⟨g1, g2⟩ | ⟨y, g1, gy, ⟨g2, g3⟩ | ⟨g2, g3⟩⟩ <;> omega
        have hmp : 0 < ms.length := by omega
        have hmle : ms.length ≤ ls.length := by omega
        have HML := Lib.hid hml
        have HWW := Lib.hid hw
        clear hml hbounds hw HW
        go_upto_if 53 with fail
        go_cut [4] (fun s4 wx => s4 = .int .i64 ms.length ∧ wx = wc)
        case first =>
          rcases HWW.out with ⟨g1, g2⟩ | g2
          · rw [decide_eq_true g1]
            have HG := Lib.hid g2
            clear g2
            go_wp2_with fail
            go_meet
            exact ⟨by rw [HG.out]; go_num, rfl⟩
          · rw [decide_eq_false (by omega : ¬ ms.length < ls.length)]
            have HG := Lib.hid g2
            clear g2
            go_wp2_with fail
            go_meet
            exact ⟨by rw [HG.out], rfl⟩
        case rest =>
          obtain ⟨rfl, rfl⟩ := hcut
          go_wp2_with fail
          have HSM : Hid (StrAt wc b ms) := Lib.hid (HMA.out _ _ HST.out)
          go_loopw [5, 6] (fun s _ wr => ∃ k : Nat, s = .int .i64 k ∧ k ≤ ms.length ∧ Hid (v = labs (ms.drop k) (tailOk ls ms)) ∧ wr = wc) (fun s _ _ => ms.length - (RowKit.intOf s).toNat)
          case atStart => exact ⟨0, rfl, by omega, HV, rfl⟩
          case round =>
            obtain ⟨k, rfl, hk, hh, rfl⟩ := hrel
            by_cases hlt : k < ms.length
            · have hcell := HSM.out k hlt
              have hx := hh.out
              have hgs := HS.out ms[k] (HMM.out _ (List.getElem_mem hlt))
              rw [List.drop_eq_getElem_cons hlt, labs_cons] at hx
              generalize ms[k] = x at *
              obtain ⟨z, hz⟩ : ∃ z, z = labs (ms.drop (k + 1)) (tailOk ls ms) := ⟨_, rfl⟩
              rw [← hz] at hx
              have HZ := Lib.hid hz
              clear hz hh
              by_cases hxe : x = []
              · subst hxe
                have HY : Hid (v = false) := Lib.hid hx
                clear hx
                go_wp2_with fail
                go_ret
                exact ⟨ret_bool HY.out.symm, hb12⟩
              · have hemp : ((x.length : Int) == 0) = false := by simp; exact hxe
                have HX : Hid (v = labGo x z) := Lib.hid (by
                  rw [hx, show (x == []) = false from by simp [hxe]]; rfl)
                clear hx hxe
                go_wp2_with fail
                go_loop [6] (fun s => ∃ j : Nat, s = .int .i64 j ∧ j ≤ x.length ∧ Hid (v = labGo (x.drop j) z)) (fun s => x.length - (RowKit.intOf s).toNat)
                case atStart => exact ⟨0, rfl, by omega, HX⟩
                case round =>
                  obtain ⟨j, rfl, hj, hh⟩ := hrel
                  by_cases hjl : j < x.length
                  · obtain ⟨c, rest, hd1, hd2, hidx⟩ := byte_at x j hjl
                    have hx := hh.out
                    rw [hd1, labGo_cons, ← hd2] at hx
                    have hcall := rplain_any c wr
                    have hlt8 := c.toNat_lt
                    have t45 : ((c.toNat : Int) == 45) = (c == 45) := byteq c 45 45 rfl
                    have t95 : ((c.toNat : Int) == 95) = (c == 95) := byteq c 95 95 rfl
                    rcases hostC_ways c with ⟨g1, g2⟩ | ⟨g1, g2, g3⟩ | ⟨g1, g2, g3, g4⟩ | ⟨g1, g2, g3, g4⟩ | ⟨g1, g2, g3, g4, g5⟩
                    · have HY : Hid (v = labGo (x.drop (j + 1)) z) := Lib.hid (by rw [hx, g2]; rfl)
                      clear hx hd1 hd2 hh t45 t95 g2 hcall
                      go_wp2_with fail
                      go_round
                      case rel => exact ⟨j + 1, by go_num, by omega, HY⟩
                      case measure => simp [RowKit.intOf]; omega
                    · have HY : Hid (v = labGo (x.drop (j + 1)) z) := Lib.hid (by rw [hx, g3]; rfl)
                      rw [g2] at hcall
                      clear hx hd1 hd2 hh t45 t95 g2 g3
                      go_wp2_with fail
                      refine hcall.mono ?_
                      rintro e w' ⟨rfl, rfl⟩
                      go_wp2_with fail
                      go_round
                      case rel => exact ⟨j + 1, by go_num, by omega, HY⟩
                      case measure => simp [RowKit.intOf]; omega
                    · have HY : Hid (v = labGo (x.drop (j + 1)) z) := Lib.hid (by rw [hx, g4]; rfl)
                      rw [g2] at hcall
                      clear hx hd1 hd2 hh t45 t95 g2 g4
                      subst g3
                      go_wp2_with fail
                      refine hcall.mono ?_
                      rintro e w' ⟨rfl, rfl⟩
                      go_wp2_with fail
                      go_round
                      case rel => exact ⟨j + 1, by go_num, by omega, HY⟩
                      case measure => simp [RowKit.intOf]; omega
                    · have HY : Hid (v = labGo (x.drop (j + 1)) z) := Lib.hid (by rw [hx, g4]; rfl)
                      rw [g2] at hcall
                      clear hx hd1 hd2 hh t45 t95 g2 g4
                      subst g3
                      go_wp2_with fail
                      refine hcall.mono ?_
                      rintro e w' ⟨rfl, rfl⟩
                      go_wp2_with fail
                      go_round
                      case rel => exact ⟨j + 1, by go_num, by omega, HY⟩
                      case measure => simp [RowKit.intOf]; omega
                    · have HY : Hid (v = false) := Lib.hid (by rw [hx, g5]; rfl)
                      rw [g2] at hcall
                      have u45 : ((c.toNat : Int) != 45) = true := by rw [bne, t45]; simpa using g3
                      have u95 : ((c.toNat : Int) != 95) = true := by rw [bne, t95]; simpa using g4
                      clear hx hd1 hd2 hh t45 t95 g2 g3 g4 g5
                      go_wp2_with fail
                      refine hcall.mono ?_
                      rintro e w' ⟨rfl, rfl⟩
                      go_wp2_with fail
                      go_ret
                      exact ⟨ret_bool HY.out.symm, hb12⟩
                  · have HY : Hid (v = labs (ms.drop (k + 1)) (tailOk ls ms)) := Lib.hid (by rw [hh.out, List.drop_eq_nil_of_le (by omega)]; exact HZ.out)
                    clear hh
                    go_wp2_with fail
                    go_roundw
                    case rel => exact ⟨k + 1, by go_num, by omega, HY, by first | rfl | trivial⟩
                    case measure => simp [RowKit.intOf]; omega
            · have hj : ms.length - 1 < ms.length := by omega
              have hx : v = tailOk ls ms := by rw [hh.out, List.drop_eq_nil_of_le (by omega)]; rfl
              have hcell := HSM.out _ hj
              have hgs := HS.out ms[ms.length - 1] (HMM.out _ (List.getElem_mem hj))
              unfold tailOk at hx
              rw [List.getD_eq_getElem?_getD, List.getElem?_eq_getElem hj, Option.getD_some] at hx
              generalize ms[ms.length - 1] = y at *
              have hdg := rdigs_any y (by omega) wr
              generalize digsB y = d at *
              have HX := Lib.hid hx
              clear hx hh HV
              cases d
              · have HY : Hid (v = true) := Lib.hid HX.out
                go_wp2_with fail
                refine hdg.mono ?_
                rintro e w3 ⟨rfl, rfl⟩
                clear hdg
                go_wp2_with fail
                go_ret
                exact ⟨ret_bool HY.out.symm, hb12⟩
              · go_wp2_with fail
                refine hdg.mono ?_
                rintro e w3 ⟨rfl, rfl⟩
                clear hdg
                by_cases hle : ls.length = ms.length ∧ ls.length = 4
                · have HY : Hid (v = ls.all octOk) := Lib.hid (by rw [HX.out, decide_eq_true hle.1]; unfold fourS; rw [decide_eq_true hle.2]; rfl)
                  have hle1 : ls.length ≤ 4 := by omega
                  have hle2 : 4 ≤ ls.length := by omega
                  have ht1 : ((ms.length : Int) != 4) = false := by simp; omega
                  have ht2 : ((ls.length : Int) != 4) = false := by simp; omega
                  clear hle HX HWW
                  go_wp2_with fail
                  have hb4 : b < wr.heap.size := hbl
                  clear hcell hgs
                  go_loopw [8] (fun s wy => ∃ i : Nat, s = .int .i64 i ∧ i ≤ 4 ∧ Hid (v = (ls.drop i).all octOk) ∧ wy = wr) (fun s _ => 4 - (RowKit.intOf s).toNat)
                  case atStart => exact ⟨0, rfl, by omega, HY, rfl⟩
                  case round =>
                    obtain ⟨i, rfl, hi, hh, rfl⟩ := hrel
                    by_cases hil : i < 4
                    · have hilt : i < ls.length := by omega
                      have hcell := HST.out i hilt
                      have hx := hh.out
                      have hgs := HS.out ls[i] (List.getElem_mem hilt)
                      rw [List.drop_eq_getElem_cons hilt, List.all_cons] at hx
                      generalize ls[i] = x at *
                      have hdg := rdigs_any x (by omega) wr
                      have hvl := fun h => rvalue_any x (by omega) h wr
                      unfold octOk digsB at hx
                      have hda : digsB x = true → digsA x = true := by unfold digsB; intro g; rw [Bool.and_eq_true] at g; exact g.2
                      have e1 : octOk x = (digsB x && decide (x.length ≤ 3) && decide (valN 0 x ≤ 255)) := rfl
                      have hx2 : v = (octOk x && (ls.drop (i + 1)).all octOk) := hx
                      rw [e1] at hx2
                      clear hx e1 hh
                      generalize digsB x = d at *
                      cases d
                      · have HZ : Hid (v = false) := Lib.hid hx2
                        clear hx2 hda hvl
                        go_wp2_with fail
                        refine hdg.mono ?_
                        rintro e w3 ⟨rfl, rfl⟩
                        clear hdg
                        go_wp2_with fail
                        go_ret
                        exact ⟨ret_bool HZ.out.symm, hb12⟩
                      · have hvl' := hvl (hda rfl)
                        clear hvl hda
                        generalize valN 0 x = n at *
                        by_cases h3 : x.length ≤ 3
                        · rw [decide_eq_true h3, Bool.true_and, Bool.true_and] at hx2
                          by_cases h255 : n ≤ 255
                          · have HZ : Hid (v = (ls.drop (i + 1)).all octOk) := Lib.hid (by rw [hx2, decide_eq_true h255]; rfl)
                            clear hx2
                            go_wp2_with fail
                            refine hdg.mono ?_
                            rintro e w3 ⟨rfl, rfl⟩
                            clear hdg
                            go_wp2_with fail
                            refine hvl'.mono ?_
                            rintro e w3 ⟨rfl, rfl⟩
                            clear hvl'
                            go_wp2_with fail
                            go_roundw
                            case rel => exact ⟨i + 1, by go_num, by omega, HZ, by first | rfl | trivial⟩
                            case measure => simp [RowKit.intOf]; omega
                          · have HZ : Hid (v = false) := Lib.hid (by rw [hx2, decide_eq_false h255]; rfl)
                            clear hx2
                            go_wp2_with fail
                            refine hdg.mono ?_
                            rintro e w3 ⟨rfl, rfl⟩
                            clear hdg
                            go_wp2_with fail
                            refine hvl'.mono ?_
                            rintro e w3 ⟨rfl, rfl⟩
                            clear hvl'
                            go_wp2_with fail
                            go_ret
                            exact ⟨ret_bool HZ.out.symm, hb12⟩
                        · have HZ : Hid (v = false) := Lib.hid (by rw [hx2, decide_eq_false h3]; rfl)
                          clear hx2 hvl'
                          go_wp2_with fail
                          refine hdg.mono ?_
                          rintro e w3 ⟨rfl, rfl⟩
                          clear hdg
                          go_wp2_with fail
                          go_ret
                          exact ⟨ret_bool HZ.out.symm, hb12⟩
                    · have HZ : Hid (v = true) := Lib.hid (by rw [hh.out, List.drop_eq_nil_of_le (by omega)]; rfl)
                      clear hh
                      go_wp2_with fail
                      go_ret
                      exact ⟨ret_bool HZ.out.symm, hb12⟩
                · have HY : Hid (v = false) := Lib.hid (by
                    rw [HX.out]; unfold fourS
                    by_cases g : ls.length = ms.length
                    · rw [decide_eq_true g, decide_eq_false (fun h => hle ⟨g, h⟩)]; rfl
                    · rw [decide_eq_false g]; rfl)
                  by_cases h4 : ms.length = 4
                  · have ht1 : ((ms.length : Int) != 4) = false := by simp; omega
                    have ht2 : ((ls.length : Int) != 4) = true := by simp; omega
                    clear hle h4
                    go_wp2_with fail
                    go_ret
                    exact ⟨ret_bool HY.out.symm, hb12⟩
                  · have ht1 : ((ms.length : Int) != 4) = true := by simp; omega
                    clear hle h4
                    go_wp2_with fail
                    go_ret
                    exact ⟨ret_bool HY.out.symm, hb12⟩

theorem rhost_any (l : List UInt8) (hl : l.length ≤ 1000000) (w : World) :
    Calls Tryz.prog 20 #[.string ⟨l.toArray⟩] w fun e w' => e = .returned (.bool (hostS l)) ∧ Below w.heap.size w w' := by
  unfold hostS
  by_cases h : l.head? = some 91
  · rw [if_pos h]
    cases l with
    | nil => cases h
    | cons a t =>
      cases h
      exact rhost_brack t (by simp at hl; omega) w
  · rw [if_neg h]
    exact rhost_plain l h hl w
end Go.Proofs.YtoghjhaagallkaaGreatDoor.link
