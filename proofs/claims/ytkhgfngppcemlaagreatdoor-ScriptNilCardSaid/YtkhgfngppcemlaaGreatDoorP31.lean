/- group.Settle of a document without radio buttons: its states, in memory of the call's own. -/
import Derived.BigQuiet
import Derived.Carry
import Derived.ChangeAlike
import Derived.Deep.AppendLies
import Derived.Deep.CutBlock
import Derived.Deep.DeepCutAuto
import Derived.Deep.MidRow
import Derived.Deep.RegionHeld
import Derived.Deep.RegionHeld3
import Derived.Deep.RegionLaw
import Derived.Deep.RegionLawGrows
import Derived.Deep.SlicePairs
import Derived.Deep.Slices
import Derived.Ground.MpProg
import Derived.Laws.BytesArg
import Derived.Laws.IdiomRangeMap
import Derived.Laws.IdiomStrings
import Derived.Laws.OwnMore
import Derived.Lib.AppendStr
import Derived.Lib.Hide
import Derived.Lib.IndexBytes
import Derived.Lib.IndexMore
import Derived.Lib.ItoaMem
import Derived.Lib.ItoaNum
import Derived.Lib.Replace
import Derived.Lib.SlTrimSet
import Derived.Lib.SliceRun
import Derived.Lib.Strings
import Derived.LoopIn
import Derived.LoopN
import Derived.LoopNIn
import Derived.MapKept
import Derived.Maps.AppendAt
import Derived.OneCell
import Derived.OpenShut
import Derived.OwnWalkIn
import Derived.ProofKit
import Derived.RangeFuncBound
import Derived.RangeFuncBox
import Derived.RangeFuncCalls
import Derived.RangeFuncLeaves
import Derived.RangeFuncNested
import Derived.RegionTactic
import Derived.Shelf.Abstract
import Derived.Shelf.RegionOpen
import Derived.Shelf.SlicesQ.IndexFunc
import Derived.Shelf.Strconv.AtoiAll
import Derived.Shelf.Strings.BuilderK
import Derived.Shelf.Strings.SlTrimAscii
import Derived.TacticsInMore
import Derived.WalkKit
import Derived.WalkSmall
import Derived.WalkSpells
import Derived.WideKeyArgs
import Derived.Test.YtkhgfngppcemlaaGreatDoorRows
import Derived.Test.YtkhgfngppcemlaaGreatDoorShelf
import Derived.Test.YtkhgfngppcemlaaGreatDoorP0
import Derived.Test.YtkhgfngppcemlaaGreatDoorP1
import Derived.Test.YtkhgfngppcemlaaGreatDoorP3
import Derived.Test.YtkhgfngppcemlaaGreatDoorP6
import Derived.Test.YtkhgfngppcemlaaGreatDoorP7
import Derived.Test.YtkhgfngppcemlaaGreatDoorP8
import Derived.Test.YtkhgfngppcemlaaGreatDoorP9
import Derived.Test.YtkhgfngppcemlaaGreatDoorP10
import Derived.Test.YtkhgfngppcemlaaGreatDoorP11
import Derived.Test.YtkhgfngppcemlaaGreatDoorP12
import Derived.Test.YtkhgfngppcemlaaGreatDoorP13
import Derived.Test.YtkhgfngppcemlaaGreatDoorP14
import Derived.Test.YtkhgfngppcemlaaGreatDoorP15
import Derived.Test.YtkhgfngppcemlaaGreatDoorP16
import Derived.Test.YtkhgfngppcemlaaGreatDoorP17
import Derived.Test.YtkhgfngppcemlaaGreatDoorP18
import Derived.Test.YtkhgfngppcemlaaGreatDoorP19
import Derived.Test.YtkhgfngppcemlaaGreatDoorP20
import Derived.Test.YtkhgfngppcemlaaGreatDoorP21
import Derived.Test.YtkhgfngppcemlaaGreatDoorP22
import Derived.Test.YtkhgfngppcemlaaGreatDoorP23
import Derived.Test.YtkhgfngppcemlaaGreatDoorP28
import Derived.Test.YtkhgfngppcemlaaGreatDoorP29
import Derived.Test.YtkhgfngppcemlaaGreatDoorP30
namespace Go.Proofs.YtkhgfngppcemlaaGreatDoor.doc
open Go Go.RowKit Go.ChangeShapes Go.WideShapes Go.ChangeAt Go.Lib Go.Proofs.YtkhgfngppcemlaaGreatDoor.atr Go.Proofs.YtkhgfngppcemlaaGreatDoor.link Go.Proofs.YtkhgfngppcemlaaGreatDoor.ctl

theorem next_empty (P : Program) (w : World) (ty : TypeId) (bm : Nat) (hb : EmpM w bm) :
    (Instr.next (.pointer (some ⟨w.heap.size, 0, none⟩)) false ty).run P (w.alloc (.mapIter (some bm) 0 #[] 0)) = .ok (.tuple #[.bool false]) (w.alloc (.mapIter (some bm) 0 #[] 0)) := by
  rcases run_next_map (P := P) w ty bm 0 0 #[] #[] 0 hb (fun x hx => by simp at hx) (Nat.le_refl _) with ⟨_, h⟩ | ⟨e, he, _⟩
  · exact h
  · simp [leftOf] at he
set_option maxHeartbeats 3200000 in
set_option maxRecDepth 100000 in
theorem gsettle_none (vn vc : Value) (l : List Nd) (cs : List Ctl) (hN : ∀ k : Nat, k < l.length → kN l (k : Int) ≠ 17) (hlc : l.length = cs.length) (hR : rightB l = true) (w : World) (hD : DocAt w vn vc l cs) :
    Calls Tryz.prog 150 #[.agg #[vn, vc]] w (RetS cs w) := by
  obtain ⟨oa, ca, rfl⟩ := NodesAt.lenN hD.nodes
  obtain ⟨oc, cc, rfl⟩ := CtlsAt.lenN hD.ctls
  obtain ⟨wA, hwA⟩ : ∃ wA, wA = w.alloc (.cells #[.slice oa l.length ca, .slice oc cs.length cc] 68) := ⟨_, rfl⟩
  have hB1 : Below w.heap.size w wA := by rw [hwA]; exact (Below.refl _ w).alloc (Nat.le_refl _) _
  have f0 : wA.cell? ⟨w.heap.size, 0, none⟩ = some (.slice oa l.length ca) := by rw [hwA]; exact World.cell?_alloc_new w _ _ 0
  have f1 : wA.cell? ⟨w.heap.size, 1, none⟩ = some (.slice oc cs.length cc) := by rw [hwA]; exact World.cell?_alloc_new w _ _ 1
  have hr := docright_any (.slice oa l.length ca) l hD.fine oc cs.length cc wA (hD.nodes.below hB1)
  rw [decide_eq_true hlc, hR] at hr
  have HC := Lib.hid (fun w' h => gcopied_any (.slice oc cs.length cc) cs hD.cb hD.fb w' (hD.ctls.below (w' := w') h))
  have HA := Lib.hid (fun w' h => all_none (.slice oa l.length ca) l hD.fine hR hN w' (hD.nodes.below (w' := w') h))
  have hrg := fun (w : World) (bm : Nat) (h : EmpM w bm) => run_range_map (P := Tryz.prog) w 229 _ _ bm #[] 0 Tryz.underlying229 h
  clear hD hlc hR hN
  subst hwA
  go_enter Tryz.func150, Tryz.ntmps150
  go_wp2_with fail
  refine hr.mono ?_
  rintro e w1 ⟨rfl, hb1⟩
  have f0 := cell_below hb1 f0
  have f1 := cell_below hb1 f1
  have hb01 := below_trans hB1 hb1
  clear hr
  go_wp2_with fail
  refine (HC.out w1 hb01).mono ?_
  rintro e w2 ⟨v', fs, rfl, ho2, hb2⟩
  have f0 := cell_below hb2 f0
  have f1 := cell_below hb2 f1
  have hb02 := below_trans hb01 hb2
  have HO2 := Lib.hid ho2
  obtain ⟨o2, c2, rfl⟩ := CtlsAt.lenN ho2.at
  clear ho2
  go_wp2_with fail
  refine (HA.out w2 hb02).mono ?_
  rintro e w3 ⟨rfl, hm3, hb3⟩
  have hb03 := below_trans hb02 hb3
  have hr3 := hrg w3 _ hm3
  have hn3 := fun ty => next_empty Tryz.prog w3 ty _ hm3
  have HO3 := Lib.hid (HO2.out.below hb3)
  clear hrg HC HA hm3
  go_wp2_with fail
  refine wp_loop_rounds 1 ?_
  rw [rounds_succ]
  go_wp2_with fail
  go_ret
  refine ⟨_, fs, rfl, ?_, ?_⟩
  · have := HO3.out.below ((Below.refl _ w3).alloc (Nat.le_refl _) (.mapIter (some w2.heap.size) 0 #[] 0))
    exact ⟨this.len, ownsRow_lower this.row (by have := hb01.size; omega), this.files, this.apart⟩
  · exact hb03.trans ((Below.refl _ w3).alloc hb03.size _)
end Go.Proofs.YtkhgfngppcemlaaGreatDoor.doc
