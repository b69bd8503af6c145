/- The two tables of the library's decoder, as far as a contract asks them of the world. -/
import Derived.Test.YtoghjhaagallkaaGreatDoorWorld
import Derived.Test.YtoghjhaagallkaaGreatDoorShelf
import Derived.Shelf.Unicode.ValidAny
namespace Go.Proofs.YtoghjhaagallkaaGreatDoor
open Go.RowKit Go.Lib
structure GU (w : World) : Prop where
  u8 : Lib.Utf8Tabs 1 2 w
theorem GU.below {w w' : World} (h : GU w) (hb : Below w.heap.size w w') : GU w' := ⟨Utf8Tabs_below h.u8 hb⟩
theorem valid_lib (l : List UInt8) (hl : l.length ≤ 1000000000) (w : World) (hU : GU w) :
    Calls Tryz.prog 49 #[.string ⟨l.toArray⟩] w fun e w' => e = .returned (.bool (validD l)) ∧ Below w.heap.size w w' :=
  Any.utf8_ValidString Tryz.lays196 ⟨l.toArray⟩ w (by rw [bsize]; omega) hU.u8
end Go.Proofs.YtoghjhaagallkaaGreatDoor
