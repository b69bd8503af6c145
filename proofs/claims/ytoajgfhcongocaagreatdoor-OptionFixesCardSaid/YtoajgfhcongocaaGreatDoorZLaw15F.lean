/- OptionFixes: the walk. -/
import Derived.Test.YtoajgfhcongocaaGreatDoorZLaw15O
import Derived.Test.YtoajgfhcongocaaGreatDoorGn
namespace Go.Proofs.YtoajgfhcongocaaGreatDoor.doc
open Go.ChangeShapes Go.WideShapes Go.ChangeAt Go.RowKit Go.Lib Go.Proofs.YtoajgfhcongocaaGreatDoor.atr Go.Proofs.YtoajgfhcongocaaGreatDoor.link Go.Proofs.YtoajgfhcongocaaGreatDoor.ctl

set_option maxHeartbeats 12800000 in
set_option maxRecDepth 100000 in
theorem fixes_walk (vn vc : Value) (l : List Nd) (cs : List Ctl) (k : Int) (_hk : (Lit.int .i64 k).wf = true) (w : World) (hD : DocAt w vn vc l cs) (hLb : LBytes l) (hE : GE w) :
    Calls Tryz.prog 6 #[docV vn vc, .int .i64 k] w fun e w' => e = .returned (.bool true) ∧ Below w.heap.size w w' := by
  unfold docV
  have H1 := Lib.hid (fun w' h => copiedD_any vn vc l cs hLb w' (hD.below (w' := w') h))
  have H2 := Lib.hid (fun vn' vc' w' (h : DocAt w' vn' vc' l cs) (h2 : Below w.heap.size w w') => fixU_any vn' vc' l cs k w' (hE.below h2) h)
  have H3 := Lib.hid (fun w' h => rfix_any vn vc l cs k w' (hD.below (w' := w') h))
  have H4 := Lib.hid (fun va vb w' hA hB => same_of hD (sh_fix l cs k) va vb w' hA hB)
  have H5 := Lib.hid (fun vn' vc' w' (h : DocAt w' vn' vc' l cs) => selvalue_any vn' vc' l cs k w' h)
  have H6 := Lib.hid (fun w' h => rselvalue_any vn vc l cs k w' (hD.below (w' := w') h))
  have H7 := Lib.hid (fun v5 w' (h : Below w.heap.size w w') hC => fixU_any vn v5 l (FixP l cs k) k w' (hE.below h) (hD.sh (sh_fix l cs k) (hD.nodes.below h) hC))
  rw [FixP_again] at H7
  have HRt := Lib.hid (fun (v : Value) (oc : Option Addr) (cc : Nat) w' (h : NodesAt w' v l) => docright_any v l hD.fine oc cs.length cc w' h)
  obtain ⟨oa, ca, rfl⟩ := NodesAt.lenN hD.nodes
  obtain ⟨oc, cc, rfl⟩ := CtlsAt.lenN hD.ctls
  have HRr := Lib.hid (fun w' h => rdocright_any (.slice oa l.length ca) l hD.fine oc cs.length cc w' (hD.nodes.below (w' := w') h))
  generalize (decide (l.length = cs.length) && rightB l) = q at *
  generalize FixP l cs k = F at *
  generalize ValueP l cs k = r at *
  obtain ⟨wA, hwA⟩ : ∃ wA, wA = w.alloc (.cells #[.slice oa l.length ca, .slice oc cs.length cc] 25) := ⟨_, rfl⟩
  have hB1 : Below w.heap.size w wA := by rw [hwA]; exact (Below.refl _ w).alloc (Nat.le_refl _) _
  have p0 : wA.cell? ⟨w.heap.size, 0, none⟩ = some (.slice oa l.length ca) := by rw [hwA]; exact World.cell?_alloc_new w _ _ 0
  have p1 : wA.cell? ⟨w.heap.size, 1, none⟩ = some (.slice oc cs.length cc) := by rw [hwA]; exact World.cell?_alloc_new w _ _ 1
  have hW := wakes_any wA (hE.below hB1)
  clear hD hE
  subst hwA
  go_enter Tryz.func6, Tryz.ntmps6
  go_wp2_with fail
  refine hW.mono ?_
  rintro e w1 ⟨rfl, hb1⟩
  have f0a := cell_below hb1 p0
  have f1a := cell_below hb1 p1
  have hb01 := below_trans hB1 hb1
  clear hW
  go_wp2_with fail
  refine (H1.out w1 hb01).mono ?_
  rintro e w2 ⟨vn2, vc2, rfl, hD2, hb2⟩
  have f0b := cell_below hb2 f0a
  have f1b := cell_below hb2 f1a
  have hb02 := below_trans hb01 hb2
  have h2 := H2.out vn2 vc2 w2 hD2 hb02
  clear hD2
  go_wp2_with fail
  refine h2.mono ?_
  rintro e w3 ⟨v5, fs5, rfl, ho5, hb3⟩
  have f0 := cell_below hb3 f0b
  have f1 := cell_below hb3 f1b
  have hb03 := below_trans hb02 hb3
  have HC5 := Lib.hid (fun w' h => ho5.at.below (w' := w') h)
  obtain ⟨o5, c5, rfl⟩ := CtlsAt.lenN ho5.at
  clear ho5 h2
  go_upto_region 4 with fail
  go_cut [35] (fun s35 wx => s35 = .bool false ∧ Below w3.heap.size w3 wx)
  case first =>
    have hh : w3.cell? ⟨w.heap.size, 0, none⟩ = some (.slice oa l.length ca) ∧ w3.cell? ⟨w.heap.size, 1, none⟩ = some (.slice oc cs.length cc) ∧ Below w3.heap.size w3 w3 := ⟨f0, f1, Below.refl _ _⟩
    cases q
    all_goals
      go_region_held3 (fun w' => w'.cell? ⟨w.heap.size, 0, none⟩ = some (.slice oa l.length ca) ∧ w'.cell? ⟨w.heap.size, 1, none⟩ = some (.slice oc cs.length cc) ∧ Below w3.heap.size w3 w')
        (first | assumption | exact b2_drew hh | exact b2_drew (by assumption) | exact b2_below (by assumption) (by assumption))
        (first
          | (go_at_call 10; refine (H1.out _ (below_trans hb03 (b2_last (by assumption)))).mono ?_; rintro e wn ⟨vn9, vc9, rfl, hDn, hbn⟩; obtain ⟨on9, cn9, rfl⟩ := NodesAt.lenN hDn.nodes; obtain ⟨oc9, cc9, rfl⟩ := CtlsAt.lenN hDn.ctls; have hPn := b2_below hbn (by assumption); (try have HDb := Lib.hid (HDa.out.below hbn)); have HDa := Lib.hid hDn; (try have HCr := Lib.hid (HCr.out.below hbn)); clear hDn)
          | (go_at_call 23; refine (HRt.out _ _ _ _ (by first | exact HDa.out.nodes | exact HDb.out.nodes)).mono ?_; rintro e wn ⟨rfl, hbn⟩; have hPn := b2_below hbn (by assumption); (try have HDa := Lib.hid (HDa.out.below hbn)); (try have HDb := Lib.hid (HDb.out.below hbn)); (try have HCr := Lib.hid (HCr.out.below hbn)))
          | (go_at_call 17; refine (HRr.out _ (below_trans hb03 (b2_last (by assumption)))).mono ?_; rintro e wn ⟨rfl, hbn⟩; have hPn := b2_below hbn (by assumption); (try have HDa := Lib.hid (HDa.out.below hbn)); (try have HDb := Lib.hid (HDb.out.below hbn)); (try have HCr := Lib.hid (HCr.out.below hbn)))
          | (go_at_call 24; refine (H3.out _ (below_trans hb03 (b2_last (by assumption)))).mono ?_; rintro e wn ⟨v8, fs8, rfl, ho8, hbn⟩; have HCr := Lib.hid ho8.at; obtain ⟨o8, c8, rfl⟩ := CtlsAt.lenN ho8.at; have hPn := b2_below hbn (by assumption); (try have HDa := Lib.hid (HDa.out.below hbn)); (try have HDb := Lib.hid (HDb.out.below hbn)); clear ho8)
          | (go_at_call 13; refine (H4.out _ _ _ (HC5.out _ (b2_last (by assumption))) HCr.out).mono ?_; rintro e wn ⟨rfl, hbn⟩; have hPn := b2_below hbn (by assumption); (try have HDa := Lib.hid (HDa.out.below hbn)); (try have HDb := Lib.hid (HDb.out.below hbn)))
          | (go_at_call 25; refine (H5.out _ _ _ (by first | exact HDa.out | exact HDb.out)).mono ?_; rintro e wn ⟨rfl, hbn⟩; have hPn := b2_below hbn (by assumption))
          | (go_at_call 26; refine (H6.out _ (below_trans hb03 (b2_last (by assumption)))).mono ?_; rintro e wn ⟨rfl, hbn⟩; have hPn := b2_below hbn (by assumption); (try have HDa := Lib.hid (HDa.out.below hbn)); (try have HDb := Lib.hid (HDb.out.below hbn))))
      all_goals
        go_wp2_with fail
        go_meet
        exact ⟨by first | rfl | simp, b2_last (by assumption)⟩
  case rest =>
  obtain ⟨rfl, hb34⟩ := hcut
  have f0 := cell_below hb34 f0
  have hb04 := below_trans hb03 hb34
  have hC4 := HC5.out _ hb34
  have h7 := H7.out _ _ hb04 hC4
  clear hC4 f1 H1 H2 H3 H5 H6 HRt HRr
  go_wp2_with fail
  refine h7.mono ?_
  rintro e w5 ⟨v9, fs9, rfl, ho9, hb5⟩
  have h8 := H4.out v9 _ w5 ho9.at (HC5.out _ (below_trans hb34 hb5))
  obtain ⟨o9, c9, rfl⟩ := CtlsAt.lenN ho9.at
  clear ho9 h7
  go_wp2_with fail
  refine h8.mono ?_
  rintro e w6 ⟨rfl, hb6⟩
  go_wp2_with fail
  go_ret
  exact ⟨rfl, below_trans (below_trans hb04 hb5) hb6⟩
end Go.Proofs.YtoajgfhcongocaaGreatDoor.doc
