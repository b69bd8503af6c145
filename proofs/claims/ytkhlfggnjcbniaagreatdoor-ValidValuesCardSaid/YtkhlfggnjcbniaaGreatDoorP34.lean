/- The contracts of step.Value, Show, bound and of the reference's. -/
import Derived.BigCall
import Derived.BigGuard
import Derived.ChangeAlike
import Derived.Deep.CutBlock
import Derived.Deep.DeepCutAuto
import Derived.Deep.MidRow
import Derived.Deep.RegionHeld3
import Derived.Deep.SlicePairs
import Derived.Deep.Slices
import Derived.Laws.BytesArg
import Derived.Laws.Closers25
import Derived.Laws.Closers25b
import Derived.Laws.IdiomStrings
import Derived.Laws.ResultCell
import Derived.Laws.Strings3
import Derived.Lib.AppendIntMem
import Derived.Lib.ConvBytes
import Derived.Lib.Hide
import Derived.Lib.IndexBytes
import Derived.Lib.IndexMore
import Derived.Lib.ItoaMem
import Derived.Lib.ItoaNum
import Derived.Lib.ParseIntBMem
import Derived.Lib.Repeat
import Derived.Lib.SlTrimSet
import Derived.Lib.Strings
import Derived.Lib.Walk
import Derived.OneCell
import Derived.OpenShut
import Derived.Outline
import Derived.ProofKit
import Derived.RegionTactic
import Derived.Shelf.SlicesQ.IndexFunc
import Derived.Shelf.Strconv.AtoiAll
import Derived.Shelf.Strings.SlTrimAscii
import Derived.WalkKit
import Derived.WalkLawsBesides
import Derived.WalkSmall
import Derived.WalkSpells
import Derived.WideKeyArgs
import Derived.Test.YtkhlfggnjcbniaaGreatDoorRows
import Derived.Test.YtkhlfggnjcbniaaGreatDoorShelf
import Derived.Test.YtkhlfggnjcbniaaGreatDoorP0
import Derived.Test.YtkhlfggnjcbniaaGreatDoorP1
import Derived.Test.YtkhlfggnjcbniaaGreatDoorP2
import Derived.Test.YtkhlfggnjcbniaaGreatDoorP3
import Derived.Test.YtkhlfggnjcbniaaGreatDoorP4
import Derived.Test.YtkhlfggnjcbniaaGreatDoorP5
import Derived.Test.YtkhlfggnjcbniaaGreatDoorP6
import Derived.Test.YtkhlfggnjcbniaaGreatDoorP7
import Derived.Test.YtkhlfggnjcbniaaGreatDoorP8
import Derived.Test.YtkhlfggnjcbniaaGreatDoorP15
import Derived.Test.YtkhlfggnjcbniaaGreatDoorP16
import Derived.Test.YtkhlfggnjcbniaaGreatDoorP17
import Derived.Test.YtkhlfggnjcbniaaGreatDoorP29
import Derived.Test.YtkhlfggnjcbniaaGreatDoorP30
import Derived.Test.YtkhlfggnjcbniaaGreatDoorP31
import Derived.Test.YtkhlfggnjcbniaaGreatDoorP32
import Derived.Test.YtkhlfggnjcbniaaGreatDoorP33
namespace Go.Proofs.YtkhlfggnjcbniaaGreatDoor.stp
open Go.ChangeShapes Go.WideShapes Go.ChangeAt Go.RowKit Go.Lib Go.Proofs.YtkhlfggnjcbniaaGreatDoor.num Go.Proofs.YtkhlfggnjcbniaaGreatDoor.mom Go.Proofs.YtkhlfggnjcbniaaGreatDoor.fits Go.Proofs.YtkhlfggnjcbniaaGreatDoor.atr
theorem kinds3 (kind : Int) : (kind = 13 ∨ kind = 14) ∨ (8 ≤ kind ∧ kind ≤ 12) ∨ ¬ (8 ≤ kind ∧ kind ≤ 14) := by omega
theorem val_num (kind : Int) (s : List UInt8) (h : kind = 13 ∨ kind = 14) : valK kind s = ((parseS s).1, (parseS s).2 == 0) := by unfold valK; rw [if_pos h]
theorem val_mom (kind : Int) (s : List UInt8) (h : 8 ≤ kind ∧ kind ≤ 12) : valK kind s = ((parseM (kind - 7) s).1, (parseM (kind - 7) s).2 == 0) := by unfold valK; rw [if_neg (by omega), if_pos h]
theorem val_none (kind : Int) (s : List UInt8) (h : ¬ (8 ≤ kind ∧ kind ≤ 14)) : valK kind s = (0, false) := by unfold valK; rw [if_neg (by omega), if_neg (by omega)]
theorem u_num (kind : Int) (h : kind = 13 ∨ kind = 14) : isK kind = true ∧ uM kind = 0 := by
  rcases h with rfl | rfl <;> exact ⟨by decide, by decide⟩
theorem u_mom (kind : Int) (h : 8 ≤ kind ∧ kind ≤ 12) : isK kind = true ∧ uM kind = kind - 7 := by
  refine ⟨?_, by unfold uM; rw [if_pos h]⟩
  unfold isK
  rw [decide_eq_true h.1, decide_eq_true (show kind ≤ 14 by omega)]; rfl

set_option maxHeartbeats 1600000 in
set_option maxRecDepth 100000 in
theorem value_any (kind : Int) (hk : i64 kind) (s : List UInt8) (hs : s.length ≤ 1000000) (w : World) (hG : G w) (hE : GE w) :
    Calls Tryz.prog 97 #[.int .i64 kind, .string ⟨s.toArray⟩] w fun e w' => e = .returned (.tuple #[.int .i64 (valK kind s).1, .bool (valK kind s).2]) ∧ Below w.heap.size w w' := by
  have ho := of_any kind hk w
  rcases kinds3 kind with h | h | h
  · rw [val_num kind s h]
    obtain ⟨e1, e2⟩ := u_num kind h
    rw [e1, e2] at ho
    have hp := fun w g k => parse_any s (by omega) w g k
    generalize (parseS s).1 = n at *
    generalize (parseS s).2 = er at *
    generalize uS kind = us at *
    generalize uB kind = ub at *
    clear e1 e2 h
    go_enter Tryz.func97, Tryz.ntmps97
    go_wp2_with fail
    refine ho.mono ?_
    rintro e w1 ⟨rfl, hb⟩
    clear ho
    have B1 : Below w.heap.size w (w1.alloc (.cells #[.int .i64 0, .int .i64 us, .int .i64 ub] 150)) := hb.alloc hb.size _
    go_wp2_with fail
    refine (hp _ (hG.below B1) (hE.below B1)).mono ?_
    rintro e w2 ⟨rfl, hb2⟩
    go_wp2_with fail
    go_ret2
    exact ⟨rfl, below_trans B1 hb2⟩
  · rw [val_mom kind s h]
    obtain ⟨e1, e2⟩ := u_mom kind h
    rw [e1, e2] at ho
    have hp := fun w k => mparse_any (kind - 7) ⟨by omega, by omega⟩ s (by omega) w k
    have hm : (kind - 7 == 0) = false := by simp; omega
    generalize (parseM (kind - 7) s).1 = n at *
    generalize (parseM (kind - 7) s).2 = er at *
    generalize uS kind = us at *
    generalize uB kind = ub at *
    generalize kind - 7 = mm at *
    clear e1 e2 h
    go_enter Tryz.func97, Tryz.ntmps97
    go_wp2_with fail
    refine ho.mono ?_
    rintro e w1 ⟨rfl, hb⟩
    clear ho
    have B1 : Below w.heap.size w (w1.alloc (.cells #[.int .i64 mm, .int .i64 us, .int .i64 ub] 150)) := hb.alloc hb.size _
    go_wp2_with fail
    refine (hp _ (hE.below B1)).mono ?_
    rintro e w2 ⟨rfl, hb2⟩
    go_wp2_with fail
    go_ret2
    exact ⟨rfl, below_trans B1 hb2⟩
  · rw [val_none kind s h]
    obtain ⟨e1, e2, e3, e4⟩ := u_no kind h
    rw [e1, e2, e3, e4] at ho
    clear e1 e2 e3 e4 h
    go_enter Tryz.func97, Tryz.ntmps97
    go_wp2_with fail
    refine ho.mono ?_
    rintro e w1 ⟨rfl, hb⟩
    clear ho
    go_wp2_with fail
    go_ret2
    exact ⟨rfl, hb.alloc hb.size _⟩

/-- what is wanted of a list of attributes -/
def Fine (l : List Attr) : Prop := l.length ≤ 1000000000 ∧ ∀ a ∈ l, a.2.length ≤ 1000000
end Go.Proofs.YtkhlfggnjcbniaaGreatDoor.stp
