/- The contract of link.hexes. -/
import Derived.Test.YtoghjhaagallkaaGreatDoorFinePure
namespace Go.Proofs.YtoghjhaagallkaaGreatDoor.link
open Go.ChangeShapes Go.WideShapes Go.ChangeAt Go.RowKit Go.Lib

theorem trim_hex (l : List UInt8) (hl : l.length ≤ 1000000000) (w : World) :
    Calls Tryz.prog 50 #[.string ⟨l.toArray⟩, .string ⟨#[48, 49, 50, 51, 52, 53, 54, 55, 56, 57, 97, 98, 99, 100, 101, 102, 65, 66, 67, 68, 69, 70]⟩] w fun e w' => e = .returned (.string ⟨(trimS l hexS).toArray⟩) ∧ Below w.heap.size w w' :=
  Any.strings_Trim_laid Tryz.lays160 (by kernel_rfl) ⟨l.toArray⟩ ⟨#[48, 49, 50, 51, 52, 53, 54, 55, 56, 57, 97, 98, 99, 100, 101, 102, 65, 66, 67, 68, 69, 70]⟩ w (by rw [bsize]; omega) (by decide) (ascii_of_all (by decide))

set_option maxHeartbeats 400000 in
theorem hexes_any (l : List UInt8) (hl : l.length ≤ 1000000000) (w : World) :
    Calls Tryz.prog 26 #[.string ⟨l.toArray⟩] w fun e w' => e = .returned (.bool (hexesB l)) ∧ Below w.heap.size w w' := by
  have ht := trim_hex l hl w
  have hq := hexes_trim l
  cases l with
  | nil =>
    clear ht hq
    go_enter Tryz.func26, Tryz.ntmps26
    go_wp2_with fail
    go_ret
    exact ⟨rfl, Below.refl _ _⟩
  | cons c r =>
    have HX : Hid (hexesB (c :: r) = (trimS (c :: r) hexS == [])) := Lib.hid (by rw [hq]; rfl)
    clear hq
    generalize trimS (c :: r) hexS = x at ht HX
    go_enter Tryz.func26, Tryz.ntmps26
    go_wp2_with fail
    refine ht.mono ?_
    rintro e w' ⟨rfl, hB⟩
    clear ht
    cases x with
    | nil =>
      go_wp2_with fail
      go_ret
      exact ⟨ret_bool (by rw [HX.out]; rfl), hB⟩
    | cons a b =>
      go_wp2_with fail
      go_ret
      exact ⟨ret_bool (by rw [HX.out]; rfl), hB⟩
end Go.Proofs.YtoghjhaagallkaaGreatDoor.link
