/- OptionChooses: the walk. -/
import Derived.Test.YtoajgfhcongocaaGreatDoorZLaw15K
import Derived.Test.YtoajgfhcongocaaGreatDoorZRChooseU
namespace Go.Proofs.YtoajgfhcongocaaGreatDoor.doc
open Go.ChangeShapes Go.WideShapes Go.ChangeAt Go.RowKit Go.Lib Go.Proofs.YtoajgfhcongocaaGreatDoor.atr Go.Proofs.YtoajgfhcongocaaGreatDoor.link Go.Proofs.YtoajgfhcongocaaGreatDoor.ctl

set_option maxHeartbeats 3200000 in
set_option maxRecDepth 100000 in
theorem chooses_walk (vn vc : Value) (l : List Nd) (cs : List Ctl) (k : Int) (_hk : (Lit.int .i64 k).wf = true) (on : Bool) (w : World) (hD : DocAt w vn vc l cs) (hLb : LBytes l) (hE : GE w) :
    Calls Tryz.prog 3 #[docV vn vc, .int .i64 k, .bool on] w fun e w' => e = .returned (.bool true) ∧ Below w.heap.size w w' := by
  unfold docV
  have H1 := Lib.hid (fun w' h => copiedD_any vn vc l cs hLb w' (hD.below (w' := w') h))
  have H2 := Lib.hid (fun vn' vc' w' (h : DocAt w' vn' vc' l cs) => choose_any vn' vc' l cs k on w' h)
  have H3 := Lib.hid (fun w' h => rchoose_any vn vc l cs k on w' (hD.below (w' := w') h))
  have H4 := Lib.hid (fun va vb w' hA hB => same_of hD (sh_choose l cs k on) va vb w' hA hB)
  have H5 := Lib.hid (fun va vb w' hA hB => same_of hD (Sh.refl cs) va vb w' hA hB)
  have H6 := Lib.hid (fun w' h => hD.ctls.below (w' := w') h)
  obtain ⟨oa, ca, rfl⟩ := NodesAt.lenN hD.nodes
  obtain ⟨oc, cc, rfl⟩ := CtlsAt.lenN hD.ctls
  generalize chooseP l cs k on = r at *
  obtain ⟨c, er⟩ := r
  obtain ⟨wA, hwA⟩ : ∃ wA, wA = w.alloc (.cells #[.slice oa l.length ca, .slice oc cs.length cc] 25) := ⟨_, rfl⟩
  have hB1 : Below w.heap.size w wA := by rw [hwA]; exact (Below.refl _ w).alloc (Nat.le_refl _) _
  have f0 : wA.cell? ⟨w.heap.size, 0, none⟩ = some (.slice oa l.length ca) := by rw [hwA]; exact World.cell?_alloc_new w _ _ 0
  have f1 : wA.cell? ⟨w.heap.size, 1, none⟩ = some (.slice oc cs.length cc) := by rw [hwA]; exact World.cell?_alloc_new w _ _ 1
  have hW := wakes_any wA (hE.below hB1)
  clear hD hE
  subst hwA
  go_enter Tryz.func3, Tryz.ntmps3
  go_wp2_with fail
  refine hW.mono ?_
  rintro e w1 ⟨rfl, hb1⟩
  have f0 := cell_below hb1 f0
  have f1 := cell_below hb1 f1
  have hb01 := below_trans hB1 hb1
  clear hW
  go_wp2_with fail
  refine (H1.out w1 hb01).mono ?_
  rintro e w2 ⟨vn2, vc2, rfl, hD2, hb2⟩
  have f0 := cell_below hb2 f0
  have f1 := cell_below hb2 f1
  have hb02 := below_trans hb01 hb2
  obtain ⟨on2, cn2, rfl⟩ := NodesAt.lenN hD2.nodes
  obtain ⟨oc2, cc2, rfl⟩ := CtlsAt.lenN hD2.ctls
  have HD2 := Lib.hid hD2
  clear hD2
  go_wp2_with fail
  obtain ⟨wB, hwB⟩ : ∃ wB, wB = w2.alloc (.cells #[.slice on2 l.length cn2, .slice oc2 cs.length cc2] 25) := ⟨_, rfl⟩
  have hB2 : Below w2.heap.size w2 wB := by rw [hwB]; exact (Below.refl _ w2).alloc (Nat.le_refl _) _
  have g1 : wB.cell? ⟨w2.heap.size, 1, none⟩ = some (.slice oc2 cs.length cc2) := by rw [hwB]; exact World.cell?_alloc_new w2 _ _ 1
  rw [← hwB]
  clear hwB
  have f0 := cell_below hB2 f0
  have f1 := cell_below hB2 f1
  have hb0B := below_trans hb02 hB2
  refine (H2.out _ _ wB (HD2.out.below hB2)).mono ?_
  rintro e w3 ⟨v3, fs3, rfl, ho3, hb3⟩
  have f0 := cell_below hb3 f0
  have f1 := cell_below hb3 f1
  have g1 := cell_below hb3 g1
  have hb03 := below_trans hb0B hb3
  have HC3 := Lib.hid ho3.at
  obtain ⟨o3, c3, rfl⟩ := CtlsAt.lenN ho3.at
  clear ho3
  go_wp2_with fail
  refine (H3.out w3 hb03).mono ?_
  rintro e w4 ⟨v4, fs4, rfl, ho4, hb4⟩
  have f1 := cell_below hb4 f1
  have g1 := cell_below hb4 g1
  have hb04 := below_trans hb03 hb4
  have h4 := H4.out _ v4 w4 (HC3.out.below hb4) ho4.at
  obtain ⟨o4, c4, rfl⟩ := CtlsAt.lenN ho4.at
  clear ho4
  go_wp2_with fail
  refine h4.mono ?_
  rintro e w5 ⟨rfl, hb5⟩
  have f1 := cell_below hb5 f1
  have g1 := cell_below hb5 g1
  have hb05 := below_trans hb04 hb5
  have h5 := H5.out _ _ w5 (HD2.out.ctls.below (below_trans hB2 (below_trans hb3 (below_trans hb4 hb5)))) (H6.out w5 hb05)
  clear h4
  go_wp2_with fail
  refine h5.mono ?_
  rintro e w6 ⟨rfl, hb6⟩
  go_wp2_with fail
  go_ret
  exact ⟨rfl, below_trans hb05 hb6⟩
end Go.Proofs.YtoajgfhcongocaaGreatDoor.doc
