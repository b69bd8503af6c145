/- OptionWrites: the walk. -/
import Derived.Test.YtoajgfhcongocaaGreatDoorZLaw15K
import Derived.Test.YtoajgfhcongocaaGreatDoorZRWriteU
namespace Go.Proofs.YtoajgfhcongocaaGreatDoor.doc
open Go.ChangeShapes Go.WideShapes Go.ChangeAt Go.RowKit Go.Lib Go.Proofs.YtoajgfhcongocaaGreatDoor.atr Go.Proofs.YtoajgfhcongocaaGreatDoor.link Go.Proofs.YtoajgfhcongocaaGreatDoor.ctl

theorem write_valueL (l : List Nd) (cs : List Ctl) (k : Int) (s : List UInt8) (hd : docR l cs = true) (hh : ∃ o ∈ listP l k, valueP l o = s) : ValueP l (writeP l cs k s) k = s := by
  unfold listP at hh
  cases hi : isP l k 23
  · rw [hi] at hh
    obtain ⟨o, h, _⟩ := hh
    cases h
  · rw [hi] at hh
    exact write_value l cs k s hd hi hh

set_option maxHeartbeats 3200000 in
set_option maxRecDepth 100000 in
theorem writes_walk (vn vc : Value) (l : List Nd) (cs : List Ctl) (k : Int) (_hk : (Lit.int .i64 k).wf = true) (s : List UInt8) (_hs : (⟨s.toArray⟩ : ByteArray).size ≤ maxLen) (_hz : s.length ≤ 140737488351232) (w : World) (hD : DocAt w vn vc l cs) (hLb : LBytes l) (hE : GE w) :
    Calls Tryz.prog 8 #[docV vn vc, .int .i64 k, .string ⟨s.toArray⟩] w fun e w' => e = .returned (.bool true) ∧ Below w.heap.size w w' := by
  unfold docV
  have H1 := Lib.hid (fun w' h => copiedD_any vn vc l cs hLb w' (hD.below (w' := w') h))
  have H2 := Lib.hid (fun vn' vc' w' (h : DocAt w' vn' vc' l cs) => write_any vn' vc' l cs k s w' h)
  have H3 := Lib.hid (fun w' h => rwrite_any vn vc l cs k s w' (hD.below (w' := w') h))
  have H4 := Lib.hid (fun va vb w' hA hB => same_of hD (sh_write l cs k s) va vb w' hA hB)
  have H6 := Lib.hid (fun v5 w' (h : Below w.heap.size w w') hC => selvalue_any vn v5 l (writeP l cs k s) k w' (hD.sh (sh_write l cs k s) (hD.nodes.below h) hC))
  have HT := Lib.hid (fun (o : Int) w' h => rtextU_any vn l hD.fine o w' (hD.nodes.below (w' := w') h))
  have HLi := Lib.hid (fun w' h => rlist_any vn l hD.fine k w' (hD.nodes.below (w' := w') h))
  have HM := Lib.hid (fun o (ho : o ∈ listP l k) => list_mem ho)
  have HN := Lib.hid (fun w' h => hD.nodes.below (w' := w') h)
  have HF := Lib.hid hD.fine
  have hol := list_le l k
  have HV := Lib.hid (write_valueL l cs k s)
  obtain ⟨oa, ca, rfl⟩ := NodesAt.lenN hD.nodes
  obtain ⟨oc, cc, rfl⟩ := CtlsAt.lenN hD.ctls
  generalize hr : ValueP l (writeP l cs k s) k = r at *
  generalize writeP l cs k s = c at *
  generalize listP l k = os at *
  clear hr
  obtain ⟨wA, hwA⟩ : ∃ wA, wA = w.alloc (.cells #[.slice oa l.length ca, .slice oc cs.length cc] 25) := ⟨_, rfl⟩
  have hB1 : Below w.heap.size w wA := by rw [hwA]; exact (Below.refl _ w).alloc (Nat.le_refl _) _
  have f0 : wA.cell? ⟨w.heap.size, 0, none⟩ = some (.slice oa l.length ca) := by rw [hwA]; exact World.cell?_alloc_new w _ _ 0
  have f1 : wA.cell? ⟨w.heap.size, 1, none⟩ = some (.slice oc cs.length cc) := by rw [hwA]; exact World.cell?_alloc_new w _ _ 1
  have hW := wakes_any wA (hE.below hB1)
  clear hD hE
  subst hwA
  go_enter Tryz.func8, Tryz.ntmps8
  go_wp2_with fail
  refine hW.mono ?_
  rintro e w1 ⟨rfl, hb1⟩
  have f0 := cell_below hb1 f0
  have f1 := cell_below hb1 f1
  have hb01 := below_trans hB1 hb1
  clear hW
  go_wp2_with fail
  refine (H1.out w1 hb01).mono ?_
  rintro e w2 ⟨vn2, vc2, rfl, hD2, hb2⟩
  have f0 := cell_below hb2 f0
  have f1 := cell_below hb2 f1
  have hb02 := below_trans hb01 hb2
  have h2 := H2.out vn2 vc2 w2 hD2
  clear hD2
  go_wp2_with fail
  refine h2.mono ?_
  rintro e w3 ⟨v5, fs5, rfl, ho5, hb3⟩
  have f0 := cell_below hb3 f0
  have f1 := cell_below hb3 f1
  have hb03 := below_trans hb02 hb3
  have HC5 := Lib.hid ho5.at
  obtain ⟨o5, c5, rfl⟩ := CtlsAt.lenN ho5.at
  clear ho5 h2
  go_wp2_with fail
  refine (H3.out w3 hb03).mono ?_
  rintro e w4 ⟨v6, fs6, rfl, ho6, hb4⟩
  have f0 := cell_below hb4 f0
  have f1 := cell_below hb4 f1
  have hb04 := below_trans hb03 hb4
  have h4 := H4.out _ v6 w4 (HC5.out.below hb4) ho6.at
  obtain ⟨o6, c6, rfl⟩ := CtlsAt.lenN ho6.at
  clear ho6
  go_wp2_with fail
  refine h4.mono ?_
  rintro e w5 ⟨rfl, hb5⟩
  have f0 := cell_below hb5 f0
  have f1 := cell_below hb5 f1
  have hb05 := below_trans hb04 hb5
  have b35 := below_trans hb4 hb5
  have h5 := rdocright_any (.slice oa l.length ca) l HF.out oc cs.length cc w5 (HN.out w5 hb05)
  rw [show (decide (l.length = cs.length) && rightB l) = docR l cs from rfl] at h5
  clear h4
  cases hq : docR l cs
  · rw [hq] at h5
    clear hq
    go_wp2_with fail
    refine h5.mono ?_
    rintro e w6 ⟨rfl, hb6⟩
    go_wp2_with fail
    go_ret
    exact ⟨rfl, below_trans hb05 hb6⟩
  rw [hq] at h5
  have HVq := Lib.hid (HV.out hq)
  clear hq HV
  go_wp2_with fail
  refine h5.mono ?_
  rintro e w6 ⟨rfl, hb6⟩
  have f0 := cell_below hb6 f0
  have hb06 := below_trans hb05 hb6
  have b36 := below_trans b35 hb6
  clear h5
  go_wp2_with fail
  refine (HLi.out w6 hb06).mono ?_
  rintro e w7 ⟨v7, rfl, hown, hb7⟩
  have f0 := cell_below hb7 f0
  have hb07 := below_trans hb06 hb7
  have b37 := below_trans b36 hb7
  have hos := hown.ints
  obtain ⟨sa, sc, rfl⟩ := RowAt.lenN hos
  clear hown
  go_wp2_with fail
  go_loopw [8, 34] (fun s8 s34 wr => ∃ (m : Nat) (b : Bool), s8 = .bool b ∧ s34 = .int .i64 m ∧ m ≤ os.length ∧ Hid (b = true → ∃ o ∈ os, valueP l o = s) ∧ Below w7.heap.size w7 wr) (fun _ s34 _ => os.length - (RowKit.intOf s34).toNat)
  case atStart => exact ⟨0, false, rfl, rfl, Nat.zero_le _, Lib.hid (fun h => by cases h), Below.refl _ _⟩
  case round =>
    obtain ⟨m, b, rfl, rfl, hm, HS, hbw⟩ := hrel
    have hww := below_trans hb07 hbw
    have g0 := cell_below hbw f0
    by_cases hlt : m < os.length
    case neg =>
      obtain rfl : m = os.length := by omega
      have h8 := H6.out _ wr hww (HC5.out.below (below_trans b37 hbw))
      cases b
      · clear HS
        go_wp2_with fail
        refine h8.mono ?_
        rintro e w8 ⟨rfl, hb8⟩
        go_wp2_with fail
        go_ret
        exact ⟨rfl, below_trans hww hb8⟩
      · obtain rfl := HVq.out (HS.out rfl)
        clear HS
        go_wp2_with fail
        refine h8.mono ?_
        rintro e w8 ⟨rfl, hb8⟩
        go_wp2_with fail
        go_ret
        exact ⟨rfl, below_trans hww hb8⟩
    obtain ⟨kb, ko, kcap, e, hkb⟩ := IntsAt.addr hos (by omega)
    cases e
    have e0 := cell_below hbw (IntsAt.cellAt hos m hlt)
    have hmem := HM.out os[m] (List.getElem_mem hlt)
    have HI := Lib.hid (List.getElem_mem hlt)
    have ht := HT.out os[m] wr hww
    rw [textP_val hmem.2] at ht
    generalize os[m] = x at *
    clear hmem
    cases b
    · by_cases hv : valueP l x = s
      · have HS2 : Hid (true = true → ∃ o ∈ os, valueP l o = s) := Lib.hid (fun _ => ⟨x, HI.out, hv⟩)
        rw [hv] at ht
        clear hv HS HI
        go_wp2_with fail
        refine ht.mono ?_
        rintro e w8 ⟨rfl, hb8⟩
        go_wp2_with fail
        go_roundw
        case rel => exact ⟨m + 1, true, by go_simp, by go_num, by omega, Lib.hid (fun _ => HS2.out trivial), below_trans hbw hb8⟩
        case measure => simp [RowKit.intOf]; omega
      · have hv0 : (valueP l x == s) = false := beq_false_of_ne hv
        generalize valueP l x = y at *
        clear hv HI
        go_wp2_with fail
        refine ht.mono ?_
        rintro e w8 ⟨rfl, hb8⟩
        go_wp2_with fail
        go_roundw
        case rel => exact ⟨m + 1, false, by simp, by go_num, by omega, HS, below_trans hbw hb8⟩
        case measure => simp [RowKit.intOf]; omega
    · clear HI ht
      go_wp2_with fail
      go_roundw
      case rel => exact ⟨m + 1, true, rfl, by go_num, by omega, HS, hbw⟩
      case measure => simp [RowKit.intOf]; omega
end Go.Proofs.YtoajgfhcongocaaGreatDoor.doc
