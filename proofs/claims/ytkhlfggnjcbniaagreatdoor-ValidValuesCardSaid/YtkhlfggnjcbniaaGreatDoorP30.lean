/- The contract of number.digits. -/
import Derived.Lib.Hide
import Derived.Lib.IndexBytes
import Derived.Lib.IndexMore
import Derived.Lib.ItoaMem
import Derived.Lib.ItoaNum
import Derived.Lib.SlTrimSet
import Derived.Lib.Strings
import Derived.Outline
import Derived.ProofKit
import Derived.Shelf.Strings.SlTrimAscii
import Derived.WalkKit
import Derived.WalkSmall
import Derived.Test.YtkhlfggnjcbniaaGreatDoorRows
import Derived.Test.YtkhlfggnjcbniaaGreatDoorShelf
import Derived.Test.YtkhlfggnjcbniaaGreatDoorP0
import Derived.Test.YtkhlfggnjcbniaaGreatDoorP2
import Derived.Test.YtkhlfggnjcbniaaGreatDoorP5
import Derived.Test.YtkhlfggnjcbniaaGreatDoorP6
namespace Go.Proofs.YtkhlfggnjcbniaaGreatDoor.num
open Go.ChangeShapes Go.WideShapes Go.ChangeAt Go.RowKit Go.Lib

theorem trim_digits (l : List UInt8) (hl : l.length ≤ 1000000000) (w : World) :
    Calls Tryz.prog 95 #[.string ⟨l.toArray⟩, .string ⟨#[48, 49, 50, 51, 52, 53, 54, 55, 56, 57]⟩] w fun e w' => e = .returned (.string ⟨(trimS l digs).toArray⟩) ∧ Below w.heap.size w w' :=
  Any.strings_Trim_laid Tryz.lays160 (by kernel_rfl) ⟨l.toArray⟩ ⟨#[48, 49, 50, 51, 52, 53, 54, 55, 56, 57]⟩ w (by rw [bsize]; omega) (by decide) (ascii_of_all (by decide))

theorem ret_bool {a b : Bool} (h : a = b) : Ending.returned (.bool a) = .returned (.bool b) := by rw [h]

set_option maxHeartbeats 400000 in
theorem digb_any (l : List UInt8) (hl : l.length ≤ 1000000000) (w : World) :
    Calls Tryz.prog 260 #[.string ⟨l.toArray⟩] w fun e w' => e = .returned (.bool (digB l)) ∧ Below w.heap.size w w' := by
  have ht := trim_digits l hl w
  have hq := trim_digs l
  cases l with
  | nil =>
    clear ht hq
    go_enter Tryz.func260, Tryz.ntmps260
    go_wp2_with fail
    go_ret
    exact ⟨rfl, Below.refl _ _⟩
  | cons c r =>
    have HQ := Lib.hid hq
    clear hq
    generalize trimS (c :: r) digs = x at ht HQ
    have HX : Hid (digB (c :: r) = (x == [])) := Lib.hid (by
      have := HQ.out
      unfold digB
      rw [Bool.eq_iff_iff]
      simp [this])
    go_enter Tryz.func260, Tryz.ntmps260
    go_wp2_with fail
    refine ht.mono ?_
    rintro e w' ⟨rfl, hB⟩
    clear ht
    cases x with
    | nil =>
      go_wp2_with fail
      go_ret
      exact ⟨ret_bool (by rw [HX.out]; rfl), hB⟩
    | cons a b =>
      go_wp2_with fail
      go_ret
      exact ⟨ret_bool (by rw [HX.out]; rfl), hB⟩
end Go.Proofs.YtkhlfggnjcbniaaGreatDoor.num
