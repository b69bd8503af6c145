/- The contract of own. -/
import Derived.ChangeAlike
import Derived.Deep.MidRow
import Derived.Laws.BytesArg
import Derived.Laws.IdiomStrings
import Derived.Laws.OwnMore
import Derived.Lib.Hide
import Derived.Lib.ItoaMem
import Derived.Lib.SliceRun
import Derived.OneCell
import Derived.ProofKit
import Derived.RegionTactic
import Derived.Shelf.SlicesQ.IndexFunc
import Derived.WalkKit
import Derived.WalkSmall
import Derived.WalkSpells
import Derived.Test.YtkhgfngppcemlaaGreatDoorRows
import Derived.Test.YtkhgfngppcemlaaGreatDoorP0
import Derived.Test.YtkhgfngppcemlaaGreatDoorP1
import Derived.Test.YtkhgfngppcemlaaGreatDoorP6
import Derived.Test.YtkhgfngppcemlaaGreatDoorP8
import Derived.Test.YtkhgfngppcemlaaGreatDoorP11
import Derived.Test.YtkhgfngppcemlaaGreatDoorP20
namespace Go.Proofs.YtkhgfngppcemlaaGreatDoor.ctl
open Go.ChangeShapes Go.WideShapes Go.ChangeAt Go.RowKit Go.Lib

def FreshV (B : Nat) (f : Value) : Prop := ∀ k, f.ownBlock = some k → B ≤ k
/-- a copy of a state: its files copied -/
def RetOwn (v : List UInt8) (d t ch dc m s ds : Bool) (cu : List UInt8) (fs : List Ent) (w : World) (e : Ending) (w' : World) : Prop :=
  ∃ oa n cap, e = .returned (ctlV v d t ch dc m s ds cu (.slice oa n cap)) ∧ EntsAt w' (.slice oa n cap) fs ∧ FreshV w.heap.size (.slice oa n cap) ∧ Below w.heap.size w w'
theorem EntsAt.of_owns {w : World} {B : Nat} {v : Value} {fs : List Ent} (h : w.ownsRow B 52 5 v fs.length (fs.flatMap encE)) : EntsAt w v fs := RowAt.of_owns h
theorem RowAt.setCell {w : World} {v : Value} {n : Nat} {xs : List Value} (h : RowAt w v n xs) (a : Addr) (u : Value) (hne : v.ownBlock ≠ some a.block) : RowAt (w.setCell a u) v n xs := by
  rcases h with h | ⟨b, off, cap, rfl, h0, h2, h3⟩
  · exact .inl h
  · refine .inr ⟨b, off, cap, rfl, h0, by simpa using h2, fun j x hj => ?_⟩
    have hb : b ≠ a.block := fun e => hne (by rw [← e]; rfl)
    rw [World.cell?_setCell_other _ _ _ _ (fun e => hb (by rw [e]))]
    exact h3 j x hj
theorem FreshV.nil (B : Nat) : FreshV B (.slice none 0 0) := fun k e => by cases e
theorem FreshV.two {B : Nat} {f : Value} (h : FreshV (B + 2) f) : FreshV B f := fun k e => by have := h k e; omega
end Go.Proofs.YtkhgfngppcemlaaGreatDoor.ctl
