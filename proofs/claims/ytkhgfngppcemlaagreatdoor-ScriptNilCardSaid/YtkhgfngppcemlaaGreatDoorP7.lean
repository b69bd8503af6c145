/- A list of attributes in memory: what it is, how it comes in, that it stays. -/
import Derived.Deep.SlicePairs
import Derived.Deep.Slices
import Derived.Lib.Hide
import Derived.Lib.ItoaMem
import Derived.OpenShut
import Derived.ProofKit
import Derived.WalkKit
import Derived.WalkSmall
import Derived.WideKeyArgs
import Derived.Test.YtkhgfngppcemlaaGreatDoorRows
import Derived.Test.YtkhgfngppcemlaaGreatDoorP1
import Derived.Test.YtkhgfngppcemlaaGreatDoorP6
namespace Go.Proofs.YtkhgfngppcemlaaGreatDoor.atr
open Go.ChangeShapes Go.WideShapes Go.RowKit Go.Lib Go.Deep

def encA (x : Attr) : List Value := [.string ⟨x.1.toArray⟩, .string ⟨x.2.toArray⟩]
/-- its cells -/
def RowA (w : World) (b off : Nat) (l : List Attr) : Prop :=
  ∀ j (h : j < l.length), w.cell? ⟨b, off + j * 2, none⟩ = some (.string ⟨l[j].1.toArray⟩) ∧ w.cell? ⟨b, off + j * 2 + 1, none⟩ = some (.string ⟨l[j].2.toArray⟩)
/-- the slice -/
def AttrsAt (w : World) (v : Value) (l : List Attr) : Prop :=
  (l = [] ∧ ∃ oa cap, v = .slice oa 0 cap) ∨ ∃ b off cap, v = .slice (some ⟨b, off, none⟩) l.length cap ∧ 0 < l.length ∧ b < w.heap.size ∧ RowA w b off l

theorem RowA.below {w w' : World} {b off : Nat} {l : List Attr} (h : RowA w b off l) (hb : Below w.heap.size w w') (hlt : b < w.heap.size) : RowA w' b off l := by
  intro j hj
  obtain ⟨h1, h2⟩ := h j hj
  exact ⟨(hb.cell (p := ⟨b, off + j * 2, none⟩) hlt).trans h1, (hb.cell (p := ⟨b, off + j * 2 + 1, none⟩) hlt).trans h2⟩
theorem AttrsAt.below {w w' : World} {v : Value} {l : List Attr} (h : AttrsAt w v l) (hb : Below w.heap.size w w') : AttrsAt w' v l := by
  rcases h with h | ⟨b, off, cap, h1, h0, h2, h3⟩
  · exact .inl h
  · exact .inr ⟨b, off, cap, h1, h0, Nat.lt_of_lt_of_le h2 hb.size, h3.below hb h2⟩
theorem AttrsAt.nil (w : World) : AttrsAt w (.slice none 0 0) [] := .inl ⟨rfl, _, _, rfl⟩

section
variable {H : Type} {enc : TypeId × Value → H} {W : World} {base : Nat} {sp : Nat → Bool} {held : Bool}
end
end Go.Proofs.YtkhgfngppcemlaaGreatDoor.atr
