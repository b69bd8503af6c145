/- The two tables of the library's decoder, as far as a contract asks them of the world. -/
import Derived.Test.YtoghjhaagallkaaDoorWorld
import Derived.Test.YtoghjhaagallkaaDoorShelf
import Derived.Shelf.Unicode.ValidAny
namespace Go.Proofs.YtoghjhaagallkaaDoor
open Go.RowKit Go.Lib
structure GU (w : World) : Prop where
  u8 : Lib.Utf8Tabs 0 1 w
theorem GU.below {w w' : World} (h : GU w) (hb : Below w.heap.size w w') : GU w' := ⟨Utf8Tabs_below h.u8 hb⟩
theorem valid_lib (l : List UInt8) (hl : l.length ≤ 1000000000) (w : World) (hU : GU w) :
    Calls Tryd.prog 43 #[.string ⟨l.toArray⟩] w fun e w' => e = .returned (.bool (validD l)) ∧ Below w.heap.size w w' :=
  Any.utf8_ValidString Tryd.lays196 ⟨l.toArray⟩ w (by rw [bsize]; omega) hU.u8
end Go.Proofs.YtoghjhaagallkaaDoor
