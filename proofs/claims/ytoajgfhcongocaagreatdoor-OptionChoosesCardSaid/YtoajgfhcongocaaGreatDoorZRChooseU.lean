/- The contract of the reference's Choose. -/
import Derived.Test.YtoajgfhcongocaaGreatDoorGs
import Derived.Test.YtoajgfhcongocaaGreatDoorGm
namespace Go.Proofs.YtoajgfhcongocaaGreatDoor.doc
open Go.ChangeShapes Go.WideShapes Go.ChangeAt Go.RowKit Go.Lib Go.Shelf Go.Proofs.YtoajgfhcongocaaGreatDoor.atr Go.Proofs.YtoajgfhcongocaaGreatDoor.link Go.Proofs.YtoajgfhcongocaaGreatDoor.ctl

theorem only_choose (opt : Int) (cs : List Ctl) (os : List Int) : mapOn (fun _ c => { c with dselected := true }) (onlyP cs os opt) os = mapOn (chooseG opt) cs os := by
  unfold onlyP
  rw [mapOn_mapOn]; rfl
theorem own_name (l : List Nd) (o p : Int) (h : ownerP l o = p) (h0 : 0 ≤ p) : (nd l p).name = nSelect := by
  unfold ownerP at h
  split at h
  · omega
  · rename_i g
    rw [← h]
    exact Classical.byContradiction (fun e => g (Or.inr e))
def dselG (_ : Int) (c : Ctl) : Ctl := { c with dselected := true }
set_option maxHeartbeats 6400000 in
set_option maxRecDepth 100000 in
theorem rchoose_any (vn vc : Value) (l : List Nd) (cs : List Ctl) (k : Int) (on : Bool) (w : World) (hD : DocAt w vn vc l cs) :
    Calls Tryz.prog 12 #[.agg #[vn, vc], .int .i64 k, .bool on] w (RetSE (chooseP l cs k on).1 (chooseP l cs k on).2 w) := by
  have HX : Hid (chooseP l cs k on = if docR l cs = false ∨ isP l k 32 = false ∨ ownerP l k < 0 then ([], 4) else if offP l k then ([], 8) else if hasA nMultiple (nd l (ownerP l k)).attrs then (cs.modify k.toNat (fun c => { c with selected := on, dselected := true }), 0) else (mapOn (chooseG k) cs (optsP l (ownerP l k)), 0)) := Lib.hid rfl
  obtain ⟨oa, ca, rfl⟩ := NodesAt.lenN hD.nodes
  obtain ⟨oc, cc, rfl⟩ := CtlsAt.lenN hD.ctls
  obtain ⟨wA, hwA⟩ : ∃ wA, wA = w.alloc (.cells #[.slice oa l.length ca, .slice oc cs.length cc] 25) := ⟨_, rfl⟩
  have hB1 : Below w.heap.size w wA := by rw [hwA]; exact (Below.refl _ w).alloc (Nat.le_refl _) _
  have f0 : wA.cell? ⟨w.heap.size, 0, none⟩ = some (.slice oa l.length ca) := by rw [hwA]; exact World.cell?_alloc_new w _ _ 0
  have f1 : wA.cell? ⟨w.heap.size, 1, none⟩ = some (.slice oc cs.length cc) := by rw [hwA]; exact World.cell?_alloc_new w _ _ 1
  have hr := rdocright_any (.slice oa l.length ca) l hD.fine oc cs.length cc wA (hD.nodes.below hB1)
  rw [show (decide (l.length = cs.length) && rightB l) = docR l cs from rfl] at hr
  have HI := Lib.hid (fun w' h => ris_any (.slice oa l.length ca) l k 32 hD.fine w' (hD.nodes.below (w' := w') h))
  cases hq : docR l cs
  · rw [hq] at hr
    have HE : Hid (chooseP l cs k on = ([], 4)) := Lib.hid (by rw [HX.out, if_pos (Or.inl hq)])
    rw [HE.out]
    clear hD HX HI hq
    subst hwA
    go_enter Tryz.func12, Tryz.ntmps12
    go_wp2_with fail
    refine hr.mono ?_
    rintro e w1 ⟨rfl, hb1⟩
    have f0 := cell_below hb1 f0
    have f1 := cell_below hb1 f1
    have hb01 := below_trans hB1 hb1
    clear hr
    go_wp2_with fail
    go_ret2
    exact ⟨_, [], rfl, OwnC.nil _ _, hb01⟩
  obtain ⟨hlc, hR⟩ := (docR_iff l cs).1 hq
  rw [hq] at hr
  cases hi : isP l k 32
  · rw [hi] at HI
    have HE : Hid (chooseP l cs k on = ([], 4)) := Lib.hid (by rw [HX.out, if_pos (Or.inr (Or.inl hi))])
    rw [HE.out]
    clear hD HX hq hi hlc
    subst hwA
    go_enter Tryz.func12, Tryz.ntmps12
    go_wp2_with fail
    refine hr.mono ?_
    rintro e w1 ⟨rfl, hb1⟩
    have f0 := cell_below hb1 f0
    have f1 := cell_below hb1 f1
    have hb01 := below_trans hB1 hb1
    clear hr
    go_wp2_with fail
    refine (HI.out w1 hb01).mono ?_
    rintro e w2 ⟨rfl, hb2⟩
    have f0 := cell_below hb2 f0
    have f1 := cell_below hb2 f1
    have hb02 := below_trans hb01 hb2
    go_wp2_with fail
    go_ret2
    exact ⟨_, [], rfl, OwnC.nil _ _, hb02⟩
  rw [hi] at HI
  obtain ⟨hin, _, _⟩ := (isP_iff l k 32).1 hi
  obtain ⟨opt, rfl⟩ : ∃ opt : Nat, k = (opt : Int) := ⟨k.toNat, by have := hin.1; omega⟩
  have ho : opt < l.length := by have := hin.2; omega
  have HW := Lib.hid (fun w' h => rowner_any (.slice oa l.length ca) l hR opt ho w' (hD.nodes.below (w' := w') h))
  by_cases hw : ownerP l (opt : Int) < 0
  · have HE : Hid (chooseP l cs (opt : Int) on = ([], 4)) := Lib.hid (by rw [HX.out, if_pos (Or.inr (Or.inr hw))])
    rw [HE.out]
    generalize ownerP l (opt : Int) = ow at *
    clear hD HX hq hi hlc
    subst hwA
    go_enter Tryz.func12, Tryz.ntmps12
    go_wp2_with fail
    refine hr.mono ?_
    rintro e w1 ⟨rfl, hb1⟩
    have f0 := cell_below hb1 f0
    have f1 := cell_below hb1 f1
    have hb01 := below_trans hB1 hb1
    clear hr
    go_wp2_with fail
    refine (HI.out w1 hb01).mono ?_
    rintro e w2 ⟨rfl, hb2⟩
    have f0 := cell_below hb2 f0
    have f1 := cell_below hb2 f1
    have hb02 := below_trans hb01 hb2
    go_wp2_with fail
    refine (HW.out w2 hb02).mono ?_
    rintro e w3 ⟨rfl, hb3⟩
    have f0 := cell_below hb3 f0
    have f1 := cell_below hb3 f1
    have hb03 := below_trans hb02 hb3
    go_wp2_with fail
    go_ret2
    exact ⟨_, [], rfl, OwnC.nil _ _, hb03⟩
  have hw2 := owner_in hR (opt : Int) hin (by omega)
  have HOf := Lib.hid (fun w' h => roff_any (.slice oa l.length ca) l hD.fine (opt : Int) w' (hD.nodes.below (w' := w') h))
  rw [offP_val hi] at HOf
  have hno : ¬ (docR l cs = false ∨ isP l (opt : Int) 32 = false ∨ ownerP l (opt : Int) < 0) := by
    rintro (h | h | h)
    · rw [hq] at h; cases h
    · rw [hi] at h; cases h
    · exact hw h
  cases hof : offP l (opt : Int)
  case true =>
    rw [hof] at HOf
    have HE : Hid (chooseP l cs (opt : Int) on = ([], 8)) := Lib.hid (by rw [HX.out, if_neg hno, if_pos hof])
    rw [HE.out]
    have hw' : ¬ ownerP l (opt : Int) < 0 := hw
    generalize ownerP l (opt : Int) = ow at *
    clear hD HX hq hi hlc hno hof
    subst hwA
    go_enter Tryz.func12, Tryz.ntmps12
    go_wp2_with fail
    refine hr.mono ?_
    rintro e w1 ⟨rfl, hb1⟩
    have f0 := cell_below hb1 f0
    have f1 := cell_below hb1 f1
    have hb01 := below_trans hB1 hb1
    clear hr
    go_wp2_with fail
    refine (HI.out w1 hb01).mono ?_
    rintro e w2 ⟨rfl, hb2⟩
    have f0 := cell_below hb2 f0
    have f1 := cell_below hb2 f1
    have hb02 := below_trans hb01 hb2
    go_wp2_with fail
    refine (HW.out w2 hb02).mono ?_
    rintro e w3 ⟨rfl, hb3⟩
    have f0 := cell_below hb3 f0
    have f1 := cell_below hb3 f1
    have hb03 := below_trans hb02 hb3
    go_wp2_with fail
    refine (HOf.out w3 hb03).mono ?_
    rintro e w4 ⟨rfl, hb4⟩
    have f0 := cell_below hb4 f0
    have f1 := cell_below hb4 f1
    have hb04 := below_trans hb03 hb4
    go_wp2_with fail
    go_ret2
    exact ⟨_, [], rfl, OwnC.nil _ _, hb04⟩
  rw [hof] at HOf
  obtain ⟨sel, hsel⟩ : ∃ sel : Nat, ownerP l (opt : Int) = (sel : Int) := ⟨(ownerP l (opt : Int)).toNat, by omega⟩
  have hs : sel < l.length := by omega
  have hfn := hD.fine.nd (sel : Int) (by omega) (by omega)
  obtain ⟨b, off, cap, e, hb⟩ := nodes_addr hD.nodes (by omega)
  cases e
  obtain ⟨va, vk, hn0⟩ := nodes_get hD.nodes sel hs
  have HN := Lib.hid hn0
  have HH := Lib.hid (fun w' (hx : Below w.heap.size w w') => rhas15_any (nd l (sel : Int)) va vk nMultiple hfn.attrs w' (hn0.below hx).attrs (hn0.below hx).kids)
  unfold nodeV at HH
  rw [hsel] at HW
  have HC := Lib.hid (fun w' h => rcopiedC_any (.slice oc cs.length cc) cs hD.cb w' (hD.ctls.below (w' := w') h))
  have h0' : (0 : Int) ≤ (sel : Int) := by omega
  have hs' : (sel : Int) < (l.length : Int) := by omega
  have HLC := Lib.hid hlc
  have hoc : opt < cs.length := by omega
  have hoc' : (opt : Int) < (cs.length : Int) := by omega
  have hcs0 : 0 < cs.length := by omega
  cases hm : hasA nMultiple (nd l (sel : Int)).attrs
  case true =>
    rw [hm] at HH
    have HE : Hid (chooseP l cs (opt : Int) on = (cs.modify opt (fun c => { c with selected := on, dselected := true }), 0)) := Lib.hid (by rw [HX.out, if_neg hno, if_neg (by rw [hof]; simp), hsel, if_pos hm, Int.toNat_natCast])
    rw [HE.out]
    clear hD HX hq hi hlc hno hof hn0 hsel hm hw hw2
    subst hwA
    go_enter Tryz.func12, Tryz.ntmps12
    go_wp2_with fail
    refine hr.mono ?_
    rintro e w1 ⟨rfl, hb1⟩
    have f0 := cell_below hb1 f0
    have f1 := cell_below hb1 f1
    have hb01 := below_trans hB1 hb1
    clear hr
    go_wp2_with fail
    refine (HI.out w1 hb01).mono ?_
    rintro e w2 ⟨rfl, hb2⟩
    have f0 := cell_below hb2 f0
    have f1 := cell_below hb2 f1
    have hb02 := below_trans hb01 hb2
    go_wp2_with fail
    refine (HW.out w2 hb02).mono ?_
    rintro e w3 ⟨rfl, hb3⟩
    have f0 := cell_below hb3 f0
    have f1 := cell_below hb3 f1
    have hb03 := below_trans hb02 hb3
    go_wp2_with fail
    refine (HOf.out w3 hb03).mono ?_
    rintro e w4 ⟨rfl, hb4⟩
    have f0 := cell_below hb4 f0
    have f1 := cell_below hb4 f1
    have hb04 := below_trans hb03 hb4
    go_wp2_with fail
    refine (HC.out w4 hb04).mono ?_
    rintro e w5 ⟨v', fs, rfl, hO, hb5⟩
    have f0 := cell_below hb5 f0
    have f1 := cell_below hb5 f1
    have hb05 := below_trans hb04 hb5
    have HO := Lib.hid hO
    obtain ⟨g, cg, rfl, hBg, hgl⟩ := hO.addr hcs0
    clear hO HC
    go_wp2_with fail
    refine (HW.out w5 hb05).mono ?_
    rintro e w6 ⟨rfl, hb6⟩
    have f0 := cell_below hb6 f0
    have f1 := cell_below hb6 f1
    have hb06 := below_trans hb05 hb6
    have hb56 := hb6
    obtain ⟨c0, c1, c2, c3, c4, _, _, _⟩ := HN.out.below hb06
    go_wp2_with fail
    refine (HH.out w6 hb06).mono ?_
    rintro e w7 ⟨rfl, hb7⟩
    have f0 := cell_below hb7 f0
    have f1 := cell_below hb7 f1
    have hb07 := below_trans hb06 hb7
    have hb57 := below_trans hb56 hb7
    clear c0 c1 c2 c3 c4
    have ho7 := HO.out.below hb57
    have c6 := ho7.selOf opt hoc
    have c7 := ho7.dselOf opt hoc
    have z6 := ho7.frozen rfl (opt * 10 + 6)
    have z7 := ho7.frozen rfl (opt * 10 + 7)
    have HT := Lib.hid (ho7.two rfl opt hoc 6 7 (by decide) (by decide) (.bool on) (.bool true) (fun c => { c with selected := on }) (fun c => { c with selected := on, dselected := true }) (fun _ => rfl) (fun _ => rfl) (fun _ _ => rfl) (fun _ _ => rfl))
    have HB := Lib.hid ((hb07.setCell (p := ⟨g, opt * 10 + 6, none⟩) (by show w.heap.size ≤ g; have := hb04.size; omega) (.bool on)).setCell (p := ⟨g, opt * 10 + 7, none⟩) (by show w.heap.size ≤ g; have := hb04.size; omega) (.bool true))
    generalize selB cs (opt : Int) = sb at *
    generalize (ct cs (opt : Int)).dselected = db at *
    have hz4 := hb04.size
    clear ho7 HO HH HN
    go_wp2_with fail
    go_ret2
    exact ⟨_, fs, rfl, HT.out.lower hz4, HB.out⟩
  rw [hm] at HH
  have his : isP l (sel : Int) 23 = true := (isP_iff l (sel : Int) 23).2 ⟨⟨h0', hs'⟩, by
    have := own_name l (opt : Int) (sel : Int) hsel (by omega)
    exact (kN_select l (sel : Int)).2 this, hR⟩
  have HE : Hid (chooseP l cs (opt : Int) on = (mapOn dselG (onlyP cs (listP l (sel : Int)) (opt : Int)) (listP l (sel : Int)), 0)) := Lib.hid (by
    rw [HX.out, if_neg hno, if_neg (by rw [hof]; simp), hsel, if_neg (by rw [hm]; simp)]
    unfold listP
    rw [if_pos his, ← only_choose]; rfl)
  rw [HE.out]
  have HL := Lib.hid (fun w' h => rlist_any (.slice (some ⟨b, off, none⟩) l.length ca) l hD.fine (sel : Int) w' (hD.nodes.below (w' := w') h))
  have HF := Lib.hid (list_fine cs hlc (sel : Int))
  have hol := list_le l (sel : Int)
  generalize listP l (sel : Int) = os at *
  clear hD HX hq hi hlc hno hof hn0 hsel hm hw hw2 his HE
  subst hwA
  go_enter Tryz.func12, Tryz.ntmps12
  go_wp2_with fail
  refine hr.mono ?_
  rintro e w1 ⟨rfl, hb1⟩
  have f0 := cell_below hb1 f0
  have f1 := cell_below hb1 f1
  have hb01 := below_trans hB1 hb1
  clear hr
  go_wp2_with fail
  refine (HI.out w1 hb01).mono ?_
  rintro e w2 ⟨rfl, hb2⟩
  have f0 := cell_below hb2 f0
  have f1 := cell_below hb2 f1
  have hb02 := below_trans hb01 hb2
  go_wp2_with fail
  refine (HW.out w2 hb02).mono ?_
  rintro e w3 ⟨rfl, hb3⟩
  have f0 := cell_below hb3 f0
  have f1 := cell_below hb3 f1
  have hb03 := below_trans hb02 hb3
  go_wp2_with fail
  refine (HOf.out w3 hb03).mono ?_
  rintro e w4 ⟨rfl, hb4⟩
  have f0 := cell_below hb4 f0
  have f1 := cell_below hb4 f1
  have hb04 := below_trans hb03 hb4
  go_wp2_with fail
  refine (HC.out w4 hb04).mono ?_
  rintro e w5 ⟨v', fs, rfl, hO, hb5⟩
  have f0 := cell_below hb5 f0
  have f1 := cell_below hb5 f1
  have hb05 := below_trans hb04 hb5
  have HO := Lib.hid hO
  obtain ⟨g, cg, rfl, hBg, hgl⟩ := hO.addr hcs0
  clear hO HC
  go_wp2_with fail
  refine (HW.out w5 hb05).mono ?_
  rintro e w6 ⟨rfl, hb6⟩
  have f0 := cell_below hb6 f0
  have f1 := cell_below hb6 f1
  have hb06 := below_trans hb05 hb6
  have hb56 := hb6
  obtain ⟨c0, c1, c2, c3, c4, _, _, _⟩ := HN.out.below hb06
  go_wp2_with fail
  refine (HH.out w6 hb06).mono ?_
  rintro e w7 ⟨rfl, hb7⟩
  have f0 := cell_below hb7 f0
  have f1 := cell_below hb7 f1
  have hb07 := below_trans hb06 hb7
  have hb57 := below_trans hb56 hb7
  clear c0 c1 c2 c3 c4
  go_wp2_with fail
  refine (HL.out w7 hb07).mono ?_
  rintro e w8 ⟨v6, rfl, hown, hb8⟩
  have hb08 := below_trans hb07 hb8
  have hos := hown.ints
  have HLt := Lib.hid hown.lt
  have ho8 := HO.out.below (below_trans hb57 hb8)
  have hon := only_any (.slice (some ⟨g, 0, none⟩) cs.length cg) cs fs v6 os (opt : Int) w4.heap.size w8 ho8 hos HF.out (by omega) (fun j e1 e2 => by
    have h1 : g = j := Option.some.inj e1
    have h2 := (HLt.out j e2).1
    have := hb57.size
    omega)
  have HI8 := Lib.hid hos
  obtain ⟨sa, sc, rfl⟩ := RowAt.lenN hos
  have hgl8 : g < w7.heap.size := by have := hb57.size; omega
  clear hown HL ho8 hos
  go_wp2_with fail
  refine hon.mono ?_
  rintro e w9 ⟨⟨u, rfl⟩, ho9, hg9⟩
  have HO9 := Lib.hid ho9
  have HI9 := Lib.hid (rowAt_grownO HI8.out hg9 (fun r e e2 => by
    have e : g = r := Option.some.inj e
    have := (HLt.out r e2).1
    omega))
  have hz4 := hb04.size
  have HB9 := Lib.hid (below_grownO hb08 hg9 hb08.size (fun r e => by have e : g = r := Option.some.inj e; omega))
  clear ho9 hg9 hon
  go_wp2_with fail
  go_loopw [11] (fun s11 wr => ∃ m : Nat, s11 = .int .i64 m ∧ m ≤ os.length ∧ Hid (OwnC wr w4.heap.size (.slice (some ⟨g, 0, none⟩) cs.length cg) (mapOn dselG (onlyP cs os (opt : Int)) (os.take m)) fs) ∧ Hid (w9.grownBy wr (some g))) (fun s11 _ => os.length - (RowKit.intOf s11).toNat)
  case atStart => exact ⟨0, rfl, Nat.zero_le _, Lib.hid (by rw [List.take_zero, mapOn_nil]; exact HO9.out), Lib.hid (grownBy_below (Below.refl _ w9))⟩
  case round =>
    obtain ⟨m, rfl, hm, ho, hg⟩ := hrel
    by_cases hlt : m < os.length
    case neg =>
      obtain rfl : m = os.length := by omega
      have HOf2 := Lib.hid ho.out
      rw [List.take_length] at HOf2
      have HBf := Lib.hid (below_grownO HB9.out hg.out HB9.out.size (fun r e => by have e : g = r := Option.some.inj e; omega))
      clear ho hg
      go_wp2_with fail
      go_ret2
      exact ⟨_, fs, rfl, HOf2.out.lower hz4, HBf.out⟩
    have hiw : IntsAt wr (.slice sa os.length sc) os := rowAt_grownO HI9.out hg.out (fun r e e2 => by
      have e : g = r := Option.some.inj e
      have := (HLt.out r e2).1
      omega)
    obtain ⟨kb, ko, kcap, e, hkb⟩ := IntsAt.addr hiw (by omega)
    cases e
    have e0 := IntsAt.cellAt hiw m hlt
    have HNw := Lib.hid (take_new HF.out.nodup m hlt)
    have HSn := Lib.hid (take_snocI os m hlt)
    have h1 := HF.out.low os[m] (List.getElem_mem hlt)
    have h2 := HF.out.high os[m] (List.getElem_mem hlt)
    clear hiw
    generalize os[m] = c at *
    obtain ⟨cn, rfl⟩ : ∃ cn : Nat, c = (cn : Int) := ⟨c.toNat, by omega⟩
    have hcn : cn < (onlyP cs os (opt : Int)).length := by rw [only_len]; omega
    have hcn' : (cn : Int) < (cs.length : Int) := by omega
    have c7 := ho.out.dselOf cn (by rw [mapOn_len]; exact hcn)
    have z7 := ho.out.frozen (by rw [mapOn_len, only_len]) (cn * 10 + 7)
    have HT := Lib.hid (ho.out.turn (by rw [only_len]) cn hcn HNw.out 7 (by decide) (.bool true) rfl (fun f => rfl))
    have HG := Lib.hid (grownBy_trans hg.out (grownBy_set wr g (cn * 10 + 7) (.bool true)))
    rw [← HSn.out] at HT
    generalize (ct (mapOn dselG (onlyP cs os (opt : Int)) (os.take m)) (cn : Int)).dselected = db at *
    clear ho hg
    go_wp2_with fail
    go_roundw
    case rel => exact ⟨m + 1, by go_num, by omega, HT, HG⟩
    case measure => simp [RowKit.intOf]; omega
end Go.Proofs.YtoajgfhcongocaaGreatDoor.doc
