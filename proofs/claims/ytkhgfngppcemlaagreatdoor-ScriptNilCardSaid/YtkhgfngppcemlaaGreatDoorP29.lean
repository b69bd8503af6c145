/- The contracts of Right, the reference's Right. -/
import Derived.BigQuiet
import Derived.ChangeAlike
import Derived.Deep.AppendLies
import Derived.Deep.CutBlock
import Derived.Deep.DeepCutAuto
import Derived.Deep.MidRow
import Derived.Deep.RegionHeld
import Derived.Deep.RegionHeld3
import Derived.Deep.RegionLaw
import Derived.Deep.RegionLawGrows
import Derived.Deep.SlicePairs
import Derived.Deep.Slices
import Derived.Ground.MpProg
import Derived.Laws.BytesArg
import Derived.Laws.IdiomStrings
import Derived.Laws.OwnMore
import Derived.Lib.AppendStr
import Derived.Lib.Hide
import Derived.Lib.IndexBytes
import Derived.Lib.IndexMore
import Derived.Lib.ItoaMem
import Derived.Lib.ItoaNum
import Derived.Lib.Replace
import Derived.Lib.SlTrimSet
import Derived.Lib.Strings
import Derived.LoopIn
import Derived.LoopNIn
import Derived.Maps.AppendAt
import Derived.OpenShut
import Derived.OwnWalkIn
import Derived.ProofKit
import Derived.RangeFuncBound
import Derived.RangeFuncBox
import Derived.RangeFuncCalls
import Derived.RangeFuncLeaves
import Derived.RangeFuncNested
import Derived.RegionTactic
import Derived.Shelf.Abstract
import Derived.Shelf.RegionOpen
import Derived.Shelf.SlicesQ.IndexFunc
import Derived.Shelf.Strconv.AtoiAll
import Derived.Shelf.Strings.BuilderK
import Derived.Shelf.Strings.SlTrimAscii
import Derived.TacticsInMore
import Derived.WalkKit
import Derived.WalkSmall
import Derived.WalkSpells
import Derived.WideKeyArgs
import Derived.Test.YtkhgfngppcemlaaGreatDoorRows
import Derived.Test.YtkhgfngppcemlaaGreatDoorShelf
import Derived.Test.YtkhgfngppcemlaaGreatDoorP0
import Derived.Test.YtkhgfngppcemlaaGreatDoorP1
import Derived.Test.YtkhgfngppcemlaaGreatDoorP3
import Derived.Test.YtkhgfngppcemlaaGreatDoorP6
import Derived.Test.YtkhgfngppcemlaaGreatDoorP7
import Derived.Test.YtkhgfngppcemlaaGreatDoorP8
import Derived.Test.YtkhgfngppcemlaaGreatDoorP9
import Derived.Test.YtkhgfngppcemlaaGreatDoorP10
import Derived.Test.YtkhgfngppcemlaaGreatDoorP11
import Derived.Test.YtkhgfngppcemlaaGreatDoorP12
import Derived.Test.YtkhgfngppcemlaaGreatDoorP13
import Derived.Test.YtkhgfngppcemlaaGreatDoorP14
import Derived.Test.YtkhgfngppcemlaaGreatDoorP15
import Derived.Test.YtkhgfngppcemlaaGreatDoorP16
import Derived.Test.YtkhgfngppcemlaaGreatDoorP17
import Derived.Test.YtkhgfngppcemlaaGreatDoorP18
import Derived.Test.YtkhgfngppcemlaaGreatDoorP19
namespace Go.Proofs.YtkhgfngppcemlaaGreatDoor.doc
open Go.ChangeShapes Go.WideShapes Go.ChangeAt Go.RowKit Go.Lib Go.Proofs.YtkhgfngppcemlaaGreatDoor.atr Go.Proofs.YtkhgfngppcemlaaGreatDoor.link

set_option maxHeartbeats 1600000 in
set_option maxRecDepth 100000 in
theorem docright_any (v : Value) (l : List Nd) (hL : LFine l) (oc : Option Addr) (n cc : Nat) (w : World) (hA : NodesAt w v l) :
    Calls Tryz.prog 171 #[.agg #[v, .slice oc n cc]] w fun e w' => e = .returned (.bool (decide (l.length = n) && rightB l)) ∧ Below w.heap.size w w' := by
  have hr := right_any v l hL _ (hA.below ((Below.refl _ w).alloc (Nat.le_refl _) (.cells #[v, .slice oc n cc] 68)))
  have hB1 : Below w.heap.size w (w.alloc (.cells #[v, .slice oc n cc] 68)) := (Below.refl _ w).alloc (Nat.le_refl _) _
  obtain ⟨oa, cap, rfl⟩ := NodesAt.lenN hA
  generalize rightB l = rb at *
  by_cases g : l.length = n
  · have HX : Hid ((decide (l.length = n) && rb) = rb) := Lib.hid (by rw [decide_eq_true g]; rfl)
    generalize (decide (l.length = n) && rb) = r at *
    obtain rfl := HX.out
    clear hA hL HX
    subst g
    go_enter Tryz.func171, Tryz.ntmps171
    go_wp2_with fail
    refine hr.mono ?_
    rintro e w1 ⟨rfl, hb1⟩
    go_wp2_with fail
    go_ret
    exact ⟨rfl, below_trans hB1 hb1⟩
  · have HX : Hid ((decide (l.length = n) && rb) = false) := Lib.hid (by rw [decide_eq_false g]; rfl)
    generalize (decide (l.length = n) && rb) = r at *
    obtain rfl := HX.out
    have g' : ((l.length : Int) == (n : Int)) = false := beq_false_of_ne (by omega)
    clear hA hL HX hr
    go_enter Tryz.func171, Tryz.ntmps171
    go_wp2_with fail
    go_ret
    exact ⟨rfl, hB1⟩

end Go.Proofs.YtkhgfngppcemlaaGreatDoor.doc
