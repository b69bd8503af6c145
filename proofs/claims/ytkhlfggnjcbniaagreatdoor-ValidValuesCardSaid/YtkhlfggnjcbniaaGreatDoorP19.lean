/- The contracts of the reference's Attr, Size. -/
import Derived.BigQuiet
import Derived.ChangeAlike
import Derived.Deep.CutBlock
import Derived.Deep.DeepCutAuto
import Derived.Deep.MidRow
import Derived.Deep.RegionHeld3
import Derived.Deep.SlicePairs
import Derived.Deep.Slices
import Derived.Laws.BytesArg
import Derived.Laws.IdiomStrings
import Derived.Laws.OwnMore
import Derived.Lib.Hide
import Derived.Lib.IndexBytes
import Derived.Lib.IndexMore
import Derived.Lib.ItoaMem
import Derived.Lib.ItoaNum
import Derived.Lib.Replace
import Derived.Lib.SlTrimSet
import Derived.Lib.Strings
import Derived.OpenShut
import Derived.ProofKit
import Derived.RegionTactic
import Derived.Shelf.SlicesQ.IndexFunc
import Derived.Shelf.Strconv.AtoiAll
import Derived.Shelf.Strings.SlTrimAscii
import Derived.WalkKit
import Derived.WalkSmall
import Derived.WalkSpells
import Derived.WideKeyArgs
import Derived.Test.YtkhlfggnjcbniaaGreatDoorRows
import Derived.Test.YtkhlfggnjcbniaaGreatDoorShelf
import Derived.Test.YtkhlfggnjcbniaaGreatDoorP0
import Derived.Test.YtkhlfggnjcbniaaGreatDoorP1
import Derived.Test.YtkhlfggnjcbniaaGreatDoorP2
import Derived.Test.YtkhlfggnjcbniaaGreatDoorP3
import Derived.Test.YtkhlfggnjcbniaaGreatDoorP5
import Derived.Test.YtkhlfggnjcbniaaGreatDoorP6
import Derived.Test.YtkhlfggnjcbniaaGreatDoorP7
import Derived.Test.YtkhlfggnjcbniaaGreatDoorP8
import Derived.Test.YtkhlfggnjcbniaaGreatDoorP9
import Derived.Test.YtkhlfggnjcbniaaGreatDoorP10
import Derived.Test.YtkhlfggnjcbniaaGreatDoorP11
import Derived.Test.YtkhlfggnjcbniaaGreatDoorP12
namespace Go.Proofs.YtkhlfggnjcbniaaGreatDoor.doc
open Go.ChangeShapes Go.WideShapes Go.ChangeAt Go.RowKit Go.Lib Go.Proofs.YtkhlfggnjcbniaaGreatDoor.atr Go.Proofs.YtkhlfggnjcbniaaGreatDoor.link Go.Proofs.YtkhlfggnjcbniaaGreatDoor.num

set_option maxHeartbeats 1600000 in
set_option maxRecDepth 100000 in
theorem rattrN_any (v : Value) (l : List Attr) (nm : List UInt8) (hl : l.length ≤ 140737488355328) (w : World) (hA : AttrsAt w v l) :
    Calls Tryz.prog 109 #[v, .string ⟨nm.toArray⟩] w fun e w' => e = .returned (.tuple #[.string ⟨(attrS nm l).toArray⟩, .bool (attrB nm l)]) ∧ w = w' := by
  have hf := rfindN_any v l nm hl w hA
  have hw := fint_ways nm l
  have hS : attrS nm l = (fval nm l).getD [] := rfl
  have hB : attrB nm l = (fval nm l).isSome := rfl
  rcases hw with ⟨k, hk', h1, _, _, h4⟩ | ⟨h1, _, h3⟩
  · rw [h1] at hf
    rw [hS, hB, h4]
    dsimp only [Option.getD, Option.isSome]
    rcases hA with ⟨rfl, _⟩ | ⟨b, off, cap, rfl, h0, hb, hR⟩
    · exact absurd hk' (Nat.not_lt_zero _)
    · obtain ⟨_, c2⟩ := hR k hk'
      generalize l[k].2 = y at *
      clear h1 h4 hB hR hS
      go_enter Tryz.func109, Tryz.ntmps109
      go_wp2_with fail
      refine hf.mono ?_
      rintro e w' ⟨rfl, rfl⟩
      clear hf
      go_wp2_with fail
      go_ret2
      exact ⟨rfl, rfl⟩
  · rw [h1] at hf
    rw [hS, hB, h3]
    dsimp only [Option.getD, Option.isSome]
    clear h1 h3 hB hA hl hS
    go_enter Tryz.func109, Tryz.ntmps109
    go_wp2_with fail
    refine hf.mono ?_
    rintro e w' ⟨rfl, rfl⟩
    clear hf
    go_wp2_with fail
    go_ret2
    exact ⟨rfl, rfl⟩


theorem val_take_le (s : List UInt8) (k : Nat) (h : s.length ≤ 4) (ha : allDig (s.take k) = true) : val (s.take k) < 10000 := by
  have h1 := val_lt _ ha
  have h2 : (s.take k).length ≤ 4 := by rw [List.length_take]; omega
  exact Nat.lt_of_lt_of_le h1 (Nat.pow_le_pow_right (by decide) h2)

end Go.Proofs.YtkhlfggnjcbniaaGreatDoor.doc
