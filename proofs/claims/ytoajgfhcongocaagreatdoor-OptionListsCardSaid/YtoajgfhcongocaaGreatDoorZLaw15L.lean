/- OptionLists: the walk. -/
import Derived.Test.YtoajgfhcongocaaGreatDoorGo
import Derived.Test.YtoajgfhcongocaaGreatDoorGn
import Derived.Test.YtoajgfhcongocaaGreatDoorGd
import Derived.Test.YtoajgfhcongocaaGreatDoorGg
namespace Go.Proofs.YtoajgfhcongocaaGreatDoor.doc
open Go.ChangeShapes Go.WideShapes Go.ChangeAt Go.RowKit Go.Lib Go.Proofs.YtoajgfhcongocaaGreatDoor.atr Go.Proofs.YtoajgfhcongocaaGreatDoor.link Go.Proofs.YtoajgfhcongocaaGreatDoor.ctl

set_option maxHeartbeats 3200000 in
set_option maxRecDepth 100000 in
theorem lists_walk (v : Value) (l : List Nd) (k : Int) (_hk : (Lit.int .i64 k).wf = true) (w : World) (hL : LFine l) (hLb : LBytes l) (hA : NodesAt w v l) (hE : GE w) :
    Calls Tryz.prog 7 #[v, .int .i64 k] w fun e w' => e = .returned (.bool true) ∧ Below w.heap.size w w' := by
  have hW := wakes_any w hE
  have H1 := Lib.hid (fun w' h => copied_any v l hLb w' (hA.below (w' := w') h))
  have H2 := Lib.hid (fun v' w' (h : NodesAt w' v' l) => list_any v' l hL k w' h)
  have H3 := Lib.hid (fun w' h => rlist_any v l hL k w' (hA.below (w' := w') h))
  have H4 := Lib.hid (fun v' w' (h : NodesAt w' v' l) (h2 : Below w.heap.size w w') => sizeU_any v' l hL k w' (hE.below h2) h)
  have H5 := Lib.hid (fun w' h => rsize_any v l hL k w' (hA.below (w' := w') h))
  have H6 := Lib.hid (fun v' w' (h : NodesAt w' v' l) => offU_any v' l hL k w' h)
  have H7 := Lib.hid (fun w' h => roff_any v l hL k w' (hA.below (w' := w') h))
  have H8 := Lib.hid (fun v' w' (h : NodesAt w' v' l) => textU_any v' l hL k w' h)
  have H9 := Lib.hid (fun w' h => rtextU_any v l hL k w' (hA.below (w' := w') h))
  have hol := list_le l k
  obtain ⟨oa, cap, rfl⟩ := NodesAt.lenN hA
  generalize listP l k = os at *
  generalize SizeP l k = sz at *
  generalize OffP l k = of at *
  generalize TextP l k = tx at *
  clear hA hE hL hLb
  go_enter Tryz.func7, Tryz.ntmps7
  go_wp2_with fail
  refine hW.mono ?_
  rintro e w1 ⟨rfl, hb1⟩
  clear hW
  go_wp2_with fail
  refine (H1.out w1 hb1).mono ?_
  rintro e w2 ⟨v5, ps, rfl, hcp, hb2⟩
  have hb02 := below_trans hb1 hb2
  have hN := hcp.nodes
  obtain ⟨o5, c5, rfl⟩ := NodesAt.lenN hN
  have HN := Lib.hid hN
  clear hcp hN
  go_wp2_with fail
  refine (H2.out _ w2 HN.out).mono ?_
  rintro e w3 ⟨v6, rfl, ho3, hb3⟩
  have hb03 := below_trans hb02 hb3
  have HI3 := Lib.hid ho3.ints
  obtain ⟨o6, c6, rfl⟩ := RowAt.lenN ho3.ints
  clear ho3
  go_wp2_with fail
  refine (H3.out w3 hb03).mono ?_
  rintro e w4 ⟨v7, rfl, ho4, hb4⟩
  have hb04 := below_trans hb03 hb4
  have HI4 := Lib.hid ho4.ints
  obtain ⟨o7, c7, rfl⟩ := RowAt.lenN ho4.ints
  clear ho4
  go_wp2_with fail
  refine (sameints_any (.slice o6 os.length c6) (.slice o7 os.length c7) os (by omega) w4 (HI3.out.below hb4) HI4.out).mono ?_
  rintro e w5 ⟨rfl, hb5⟩
  have hb05 := below_trans hb04 hb5
  have hN5 := HN.out.below (below_trans hb3 (below_trans hb4 hb5))
  go_wp2_with fail
  refine (H4.out _ w5 hN5 hb05).mono ?_
  rintro e w6 ⟨rfl, hb6⟩
  have hb06 := below_trans hb05 hb6
  have hN6 := hN5.below hb6
  go_wp2_with fail
  refine (H5.out w6 hb06).mono ?_
  rintro e w7 ⟨rfl, hb7⟩
  have hb07 := below_trans hb06 hb7
  have hN7 := hN6.below hb7
  go_wp2_with fail
  refine (H6.out _ w7 hN7).mono ?_
  rintro e w8 ⟨rfl, hb8⟩
  have hb08 := below_trans hb07 hb8
  have hN8 := hN7.below hb8
  go_wp2_with fail
  refine (H7.out w8 hb08).mono ?_
  rintro e w9 ⟨rfl, hb9⟩
  have hb09 := below_trans hb08 hb9
  have hN9 := hN8.below hb9
  go_wp2_with fail
  refine (H8.out _ w9 hN9).mono ?_
  rintro e wA ⟨rfl, hbA⟩
  have hb0A := below_trans hb09 hbA
  go_wp2_with fail
  refine (H9.out wA hb0A).mono ?_
  rintro e wB ⟨rfl, hbB⟩
  go_wp2_with fail
  go_ret
  exact ⟨rfl, below_trans hb0A hbB⟩
end Go.Proofs.YtoajgfhcongocaaGreatDoor.doc
