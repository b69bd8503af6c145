/- The contracts of the search for an attribute: the program's (slices.IndexFunc with a closure), the reference's Find. -/
import Derived.ChangeAlike
import Derived.Deep.SlicePairs
import Derived.Deep.Slices
import Derived.Lib.Hide
import Derived.Lib.ItoaMem
import Derived.OpenShut
import Derived.ProofKit
import Derived.RegionTactic
import Derived.Shelf.SlicesQ.IndexFunc
import Derived.WalkKit
import Derived.WalkSmall
import Derived.WalkSpells
import Derived.WideKeyArgs
import Derived.Test.YtkhgfngppcemlaaGreatDoorRows
import Derived.Test.YtkhgfngppcemlaaGreatDoorShelf
import Derived.Test.YtkhgfngppcemlaaGreatDoorP1
import Derived.Test.YtkhgfngppcemlaaGreatDoorP6
import Derived.Test.YtkhgfngppcemlaaGreatDoorP7
namespace Go.Proofs.YtkhgfngppcemlaaGreatDoor.atr
open Go.ChangeShapes Go.WideShapes Go.ChangeAt Go.RowKit Go.Lib
theorem lst_eq (a b : List UInt8) : (a == b) = decide (a = b) := by
  rw [Bool.eq_iff_iff, beq_iff_eq, decide_eq_true_eq]

theorem fint_ways (nm : List UInt8) (l : List Attr) : (∃ (k : Nat) (h : k < l.length), fint nm l = k ∧ l[k].1 = nm ∧ (∀ j (hj : j < k), l[j].1 ≠ nm) ∧ fval nm l = some l[k].2) ∨ (fint nm l = -1 ∧ (∀ j (hj : j < l.length), l[j].1 ≠ nm) ∧ fval nm l = none) := by
  unfold fint
  rcases find_ways nm l with ⟨k, h, h1, h2, h3, h4⟩ | ⟨h1, h2, h3⟩
  · left; exact ⟨k, h, by rw [h1, if_pos h], h2, h3, h4⟩
  · right; exact ⟨by rw [h1, if_neg (Nat.lt_irrefl _)], h2, h3⟩
theorem fint_idx (nm : List UInt8) (l : List Attr) : Lib.idxBy (fun _ (y : Attr) => decide (y.1 = nm)) (l.take l.length) default = fint nm l := by
  rcases fint_ways nm l with ⟨k, h, h1, h2, h3, h4⟩ | ⟨h1, h2, h3⟩
  · rw [h1]
    exact Lib.idxBy_hit (fun _ (y : Attr) => decide (y.1 = nm)) l l.length k default h (Nat.le_refl _) (by rw [getElem!_pos l k h]; exact decide_eq_true h2)
      (fun j hj => by rw [getElem!_pos l j (by omega)]; exact decide_eq_false (h3 j hj))
  · rw [h1]
    exact Lib.idxBy_miss (fun _ (y : Attr) => decide (y.1 = nm)) l l.length default (fun j hj => by rw [getElem!_pos l j hj]; exact decide_eq_false (h2 j hj))

theorem isAggA : ∀ w, (isAgg 130).run Tryz.prog w = .ok true w := Tryz.isAgg130
theorem sizeA : ∀ w, (Go.sizeOf 130).run Tryz.prog w = .ok 2 w := Tryz.sizeOf130

/-- the empty list's search -/
theorem idxf_empty (oa : Option Addr) (cap : Nat) (g : Nat) (lb : Array Value) (w : World) :
    Calls Tryz.prog 294 #[.slice oa 0 cap, .func (.func g) #[] lb] w fun e w' => e = .returned (.int .i64 (-1)) ∧ w = w' := by
  go_enter Tryz.func294, Tryz.ntmps294
  go_wp2_with fail
  go_loopw [5, 8] (fun _ s8 wr => s8 = .int .i64 0 ∧ w = wr) (fun _ _ _ => 0)
  case atStart => exact ⟨rfl, rfl⟩
  case round =>
    obtain ⟨rfl, rfl⟩ := hrel
    go_wp2_with fail
    go_ret
    exact ⟨rfl, rfl⟩

theorem row_cells {w : World} {b off : Nat} {l : List Attr} (hR : RowA w b off l) : ∀ j, j < l.length → ∀ i v, (encA l[j]!)[i]? = some v → w.cell? ⟨b, off + j * 2 + i, none⟩ = some v := by
  intro j hj i v hi
  obtain ⟨h1, h2⟩ := hR j hj
  rw [getElem!_pos l j hj] at hi
  match i, hi with
  | 0, hi => rw [← Option.some.inj hi]; exact h1
  | 1, hi => rw [← Option.some.inj hi]; exact h2
  | i + 2, hi => simp [encA] at hi

end Go.Proofs.YtkhgfngppcemlaaGreatDoor.atr
