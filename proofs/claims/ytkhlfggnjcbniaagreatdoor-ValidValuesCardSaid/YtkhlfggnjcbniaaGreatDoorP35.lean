/- The contract of the reference's Attr; of Lines, cleaned. -/
import Derived.BigCall
import Derived.BigGuard
import Derived.ChangeAlike
import Derived.Deep.CutBlock
import Derived.Deep.DeepCutAuto
import Derived.Deep.MidRow
import Derived.Deep.RegionHeld3
import Derived.Deep.SlicePairs
import Derived.Deep.Slices
import Derived.Ground.MpProg
import Derived.Laws.BytesArg
import Derived.Laws.Closers25
import Derived.Laws.Closers25b
import Derived.Laws.IdiomStrings
import Derived.Laws.ResultCell
import Derived.Laws.Strings3
import Derived.Lib.AppendIntMem
import Derived.Lib.AppendStr
import Derived.Lib.ConvBytes
import Derived.Lib.Hide
import Derived.Lib.IndexBytes
import Derived.Lib.IndexMore
import Derived.Lib.ItoaMem
import Derived.Lib.ItoaNum
import Derived.Lib.Join
import Derived.Lib.ParseIntBMem
import Derived.Lib.Repeat
import Derived.Lib.Replace
import Derived.Lib.SlTrimSet
import Derived.Lib.Split
import Derived.Lib.SplitLaws
import Derived.Lib.Strings
import Derived.Lib.Walk
import Derived.OneCell
import Derived.OpenShut
import Derived.Outline
import Derived.ProofKit
import Derived.RegionTactic
import Derived.Shelf.Bits.Mul64
import Derived.Shelf.SlicesQ.IndexFunc
import Derived.Shelf.Strconv.AtoiAll
import Derived.Shelf.Strings.OnBuilder
import Derived.Shelf.Strings.SlTrimAscii
import Derived.WalkKit
import Derived.WalkLawsBesides
import Derived.WalkSmall
import Derived.WalkSpells
import Derived.WideKeyArgs
import Derived.Test.YtkhlfggnjcbniaaGreatDoorProg
import Derived.Test.YtkhlfggnjcbniaaGreatDoorRows
import Derived.Test.YtkhlfggnjcbniaaGreatDoorShelf
import Derived.Test.YtkhlfggnjcbniaaGreatDoorP0
import Derived.Test.YtkhlfggnjcbniaaGreatDoorP1
import Derived.Test.YtkhlfggnjcbniaaGreatDoorP2
import Derived.Test.YtkhlfggnjcbniaaGreatDoorP3
import Derived.Test.YtkhlfggnjcbniaaGreatDoorP4
import Derived.Test.YtkhlfggnjcbniaaGreatDoorP5
import Derived.Test.YtkhlfggnjcbniaaGreatDoorP6
import Derived.Test.YtkhlfggnjcbniaaGreatDoorP7
import Derived.Test.YtkhlfggnjcbniaaGreatDoorP8
import Derived.Test.YtkhlfggnjcbniaaGreatDoorP15
import Derived.Test.YtkhlfggnjcbniaaGreatDoorP16
import Derived.Test.YtkhlfggnjcbniaaGreatDoorP17
import Derived.Test.YtkhlfggnjcbniaaGreatDoorP22
import Derived.Test.YtkhlfggnjcbniaaGreatDoorP28
import Derived.Test.YtkhlfggnjcbniaaGreatDoorP29
import Derived.Test.YtkhlfggnjcbniaaGreatDoorP30
import Derived.Test.YtkhlfggnjcbniaaGreatDoorP31
import Derived.Test.YtkhlfggnjcbniaaGreatDoorP32
import Derived.Test.YtkhlfggnjcbniaaGreatDoorP33
import Derived.Test.YtkhlfggnjcbniaaGreatDoorP34
namespace Go.Proofs.YtkhlfggnjcbniaaGreatDoor.ctl
open Go.ChangeShapes Go.WideShapes Go.ChangeAt Go.RowKit Go.Lib Go.Proofs.YtkhlfggnjcbniaaGreatDoor.num Go.Proofs.YtkhlfggnjcbniaaGreatDoor.mom Go.Proofs.YtkhlfggnjcbniaaGreatDoor.fits Go.Proofs.YtkhlfggnjcbniaaGreatDoor.atr Go.Proofs.YtkhlfggnjcbniaaGreatDoor.link Go.Proofs.YtkhlfggnjcbniaaGreatDoor.stp Go.Proofs.YtkhlfggnjcbniaaGreatDoor.cln

set_option maxHeartbeats 1600000 in
set_option maxRecDepth 100000 in
theorem rattr14_any (v : Value) (l : List Attr) (nm : List UInt8) (hl : l.length ≤ 1000000000) (w : World) (hA : AttrsAt w v l) :
    Calls Tryz.prog 109 #[v, .string ⟨nm.toArray⟩] w fun e w' => e = .returned (.tuple #[.string ⟨(attrS nm l).toArray⟩, .bool (attrB nm l)]) ∧ w = w' := by
  have hf := rfind_any v l nm hl w hA
  have hw := fint_ways nm l
  have hS : attrS nm l = (fval nm l).getD [] := rfl
  have hB : attrB nm l = (fval nm l).isSome := rfl
  rcases hw with ⟨k, hk', h1, _, _, h4⟩ | ⟨h1, _, h3⟩
  · rw [h1] at hf
    rw [hS, hB, h4]
    dsimp only [Option.getD, Option.isSome]
    rcases hA with ⟨rfl, _⟩ | ⟨b, off, cap, rfl, h0, hb, hR⟩
    · exact absurd hk' (Nat.not_lt_zero _)
    · obtain ⟨_, c2⟩ := hR k hk'
      generalize l[k].2 = y at *
      clear h1 h4 hB hR hS
      go_enter Tryz.func109, Tryz.ntmps109
      go_wp2_with fail
      refine hf.mono ?_
      rintro e w' ⟨rfl, rfl⟩
      clear hf
      go_wp2_with fail
      go_ret2
      exact ⟨rfl, rfl⟩
  · rw [h1] at hf
    rw [hS, hB, h3]
    dsimp only [Option.getD, Option.isSome]
    clear h1 h3 hB hA hl hS
    go_enter Tryz.func109, Tryz.ntmps109
    go_wp2_with fail
    refine hf.mono ?_
    rintro e w' ⟨rfl, rfl⟩
    clear hf
    go_wp2_with fail
    go_ret2
    exact ⟨rfl, rfl⟩

end Go.Proofs.YtkhlfggnjcbniaaGreatDoor.ctl
