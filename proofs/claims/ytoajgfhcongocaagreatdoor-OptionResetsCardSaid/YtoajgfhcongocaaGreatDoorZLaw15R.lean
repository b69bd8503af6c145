/- OptionResets: the walk. -/
import Derived.Test.YtoajgfhcongocaaGreatDoorZLaw15K
namespace Go.Proofs.YtoajgfhcongocaaGreatDoor.doc
open Go.ChangeShapes Go.WideShapes Go.ChangeAt Go.RowKit Go.Lib Go.Proofs.YtoajgfhcongocaaGreatDoor.atr Go.Proofs.YtoajgfhcongocaaGreatDoor.link Go.Proofs.YtoajgfhcongocaaGreatDoor.ctl

set_option maxHeartbeats 3200000 in
set_option maxRecDepth 100000 in
theorem resets_walk (vn vc : Value) (l : List Nd) (cs : List Ctl) (k : Int) (_hk : (Lit.int .i64 k).wf = true) (w : World) (hD : DocAt w vn vc l cs) (hLb : LBytes l) (hE : GE w) :
    Calls Tryz.prog 4 #[docV vn vc, .int .i64 k] w fun e w' => e = .returned (.bool true) ∧ Below w.heap.size w w' := by
  unfold docV
  have H1 := Lib.hid (fun w' h => copiedD_any vn vc l cs hLb w' (hD.below (w' := w') h))
  have H2 := Lib.hid (fun vn' vc' w' (h : DocAt w' vn' vc' l cs) (h2 : Below w.heap.size w w') => reset_any vn' vc' l cs k w' (hE.below h2) h)
  have H3 := Lib.hid (fun w' h => rreset_any vn vc l cs k w' (hD.below (w' := w') h))
  have H4 := Lib.hid (fun va vb w' hA hB => same_of hD (sh_reset l cs k) va vb w' hA hB)
  have H5 := Lib.hid (fun v5 w' (h : Below w.heap.size w w') hC => fixU_any vn v5 l (resetP l cs k) k w' (hE.below h) (hD.sh (sh_reset l cs k) (hD.nodes.below h) hC))
  rw [resetP_fixed] at H5
  obtain ⟨oa, ca, rfl⟩ := NodesAt.lenN hD.nodes
  obtain ⟨oc, cc, rfl⟩ := CtlsAt.lenN hD.ctls
  generalize resetP l cs k = r at *
  obtain ⟨wA, hwA⟩ : ∃ wA, wA = w.alloc (.cells #[.slice oa l.length ca, .slice oc cs.length cc] 25) := ⟨_, rfl⟩
  have hB1 : Below w.heap.size w wA := by rw [hwA]; exact (Below.refl _ w).alloc (Nat.le_refl _) _
  have f0 : wA.cell? ⟨w.heap.size, 0, none⟩ = some (.slice oa l.length ca) := by rw [hwA]; exact World.cell?_alloc_new w _ _ 0
  have f1 : wA.cell? ⟨w.heap.size, 1, none⟩ = some (.slice oc cs.length cc) := by rw [hwA]; exact World.cell?_alloc_new w _ _ 1
  have hW := wakes_any wA (hE.below hB1)
  clear hD hE
  subst hwA
  go_enter Tryz.func4, Tryz.ntmps4
  go_wp2_with fail
  refine hW.mono ?_
  rintro e w1 ⟨rfl, hb1⟩
  have f0 := cell_below hb1 f0
  have f1 := cell_below hb1 f1
  have hb01 := below_trans hB1 hb1
  clear hW
  go_wp2_with fail
  refine (H1.out w1 hb01).mono ?_
  rintro e w2 ⟨vn2, vc2, rfl, hD2, hb2⟩
  have f0 := cell_below hb2 f0
  have f1 := cell_below hb2 f1
  have hb02 := below_trans hb01 hb2
  have h2 := H2.out vn2 vc2 w2 hD2 hb02
  clear hD2
  go_wp2_with fail
  refine h2.mono ?_
  rintro e w3 ⟨v5, fs5, rfl, ho5, hb3⟩
  have f0 := cell_below hb3 f0
  have f1 := cell_below hb3 f1
  have hb03 := below_trans hb02 hb3
  have HC5 := Lib.hid ho5.at
  obtain ⟨o5, c5, rfl⟩ := CtlsAt.lenN ho5.at
  clear ho5 h2
  go_wp2_with fail
  refine (H3.out w3 hb03).mono ?_
  rintro e w4 ⟨v6, fs6, rfl, ho6, hb4⟩
  have f0 := cell_below hb4 f0
  have hb04 := below_trans hb03 hb4
  have h4 := H4.out _ v6 w4 (HC5.out.below hb4) ho6.at
  obtain ⟨o6, c6, rfl⟩ := CtlsAt.lenN ho6.at
  clear ho6
  go_wp2_with fail
  refine h4.mono ?_
  rintro e w5 ⟨rfl, hb5⟩
  have f0 := cell_below hb5 f0
  have hb05 := below_trans hb04 hb5
  have hC55 := HC5.out.below (below_trans hb4 hb5)
  have h5 := H5.out _ w5 hb05 hC55
  clear h4
  go_wp2_with fail
  refine h5.mono ?_
  rintro e w6 ⟨v7, fs7, rfl, ho7, hb6⟩
  have hb06 := below_trans hb05 hb6
  have h6 := H4.out v7 _ w6 ho7.at (hC55.below hb6)
  obtain ⟨o7, c7, rfl⟩ := CtlsAt.lenN ho7.at
  clear ho7 h5 hC55
  go_wp2_with fail
  refine h6.mono ?_
  rintro e w7 ⟨rfl, hb7⟩
  go_wp2_with fail
  go_ret
  exact ⟨rfl, below_trans hb06 hb7⟩
end Go.Proofs.YtoajgfhcongocaaGreatDoor.doc
