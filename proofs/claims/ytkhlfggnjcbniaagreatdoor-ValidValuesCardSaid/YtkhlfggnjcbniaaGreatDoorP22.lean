/- The contract of the reference's ends, NoBreaks. The contracts of the reference's Blank, Strip, Trim. -/
import Derived.Deep.MidRow
import Derived.Laws.BytesArg
import Derived.Laws.IdiomStrings
import Derived.Lib.AppendStr
import Derived.Lib.Hide
import Derived.Lib.IndexBytes
import Derived.Lib.IndexMore
import Derived.Lib.ItoaMem
import Derived.Lib.Replace
import Derived.Lib.SlTrimSet
import Derived.Lib.Strings
import Derived.ProofKit
import Derived.WalkKit
import Derived.WalkSmall
import Derived.WalkSpells
import Derived.Test.YtkhlfggnjcbniaaGreatDoorRows
import Derived.Test.YtkhlfggnjcbniaaGreatDoorP0
import Derived.Test.YtkhlfggnjcbniaaGreatDoorP3
import Derived.Test.YtkhlfggnjcbniaaGreatDoorP5
import Derived.Test.YtkhlfggnjcbniaaGreatDoorP6
namespace Go.Proofs.YtkhlfggnjcbniaaGreatDoor.cln
open Go.ChangeShapes Go.WideShapes Go.ChangeAt Go.RowKit Go.Lib Go.Proofs.YtkhlfggnjcbniaaGreatDoor.link
theorem strCells_of (s : List UInt8) : strCells ⟨s.toArray⟩ = link.cellsOf s := rfl
theorem cells_app (a b : List UInt8) : link.cellsOf (a ++ b) = link.cellsOf a ++ link.cellsOf b := by unfold link.cellsOf; rw [List.map_append]
theorem grown_rel (w wr w1 : World) (B : Nat) (e : TypeId) (v : Value) (k : Nat) (xs : List Value) (hown : wr.ownsRow B e 1 v k xs) (hb : Below B w wr) (hbs : B ≤ wr.heap.size) (hg : wr.grownBy w1 v.ownBlock) :
    Below B w w1 ∧ B ≤ w1.heap.size := by
  constructor
  · refine Below.grown hb hg (by omega) ?_
    intro j hj
    obtain ⟨_, ⟨rfl, _⟩ | ⟨g, cap, cur, rfl, hge, _⟩⟩ := hown
    · cases hj
    · cases hj; exact hge
  · have := hg.size; omega


end Go.Proofs.YtkhlfggnjcbniaaGreatDoor.cln
namespace Go.Proofs.YtkhlfggnjcbniaaGreatDoor.cln
open Go.ChangeShapes Go.WideShapes Go.ChangeAt Go.RowKit Go.Lib Go.Proofs.YtkhlfggnjcbniaaGreatDoor.link

theorem isB_iff (c : UInt8) : isB c = true ↔ (c = 9 ∨ c = 10 ∨ c = 12 ∨ c = 13 ∨ c = 32) := by
  unfold isB blanks
  simp
theorem tb_ret {a b : Bool} (h : a = b) : Ending.returned (.bool a) = .returned (.bool b) := by rw [h]
theorem byte_eqd (c d : UInt8) (n : Int) (h : (d.toNat : Int) = n) : ((c.toNat : Int) == n) = decide (c = d) := by
  rw [byteq c d n h, Bool.eq_iff_iff]; simp

set_option maxHeartbeats 800000 in
set_option maxRecDepth 100000 in
theorem rblank_any (c : UInt8) (w : World) :
    Calls Tryz.prog 273 #[.int .u8 c.toNat] w fun e w' => e = .returned (.bool (isB c)) ∧ w = w' := by
  have t9 := byte_eqd c 9 9 rfl
  have t10 := byte_eqd c 10 10 rfl
  have t12 := byte_eqd c 12 12 rfl
  have t13 := byte_eqd c 13 13 rfl
  have t32 := byte_eqd c 32 32 rfl
  have hi := isB_iff c
  obtain ⟨r, hr⟩ : ∃ r, r = isB c := ⟨_, rfl⟩
  rw [← hr] at hi ⊢
  clear hr
  have HI := Lib.hid hi
  clear hi
  by_cases c9 : c = 9
  · have HX : Hid (r = true) := Lib.hid (HI.out.2 (Or.inl c9))
    rw [decide_eq_true c9] at t9
    clear c9 t10 t12 t13 t32
    go_enter Tryz.func273, Tryz.ntmps273
    go_wp2_with fail
    go_ret
    exact ⟨tb_ret HX.out.symm, rfl⟩
  by_cases c10 : c = 10
  · have HX : Hid (r = true) := Lib.hid (HI.out.2 (Or.inr (Or.inl c10)))
    rw [decide_eq_false c9] at t9
    rw [decide_eq_true c10] at t10
    clear c9 c10 t12 t13 t32
    go_enter Tryz.func273, Tryz.ntmps273
    go_wp2_with fail
    go_ret
    exact ⟨tb_ret HX.out.symm, rfl⟩
  by_cases c12 : c = 12
  · have HX : Hid (r = true) := Lib.hid (HI.out.2 (Or.inr (Or.inr (Or.inl c12))))
    rw [decide_eq_false c9] at t9
    rw [decide_eq_false c10] at t10
    rw [decide_eq_true c12] at t12
    clear c9 c10 c12 t13 t32
    go_enter Tryz.func273, Tryz.ntmps273
    go_wp2_with fail
    go_ret
    exact ⟨tb_ret HX.out.symm, rfl⟩
  by_cases c13 : c = 13
  · have HX : Hid (r = true) := Lib.hid (HI.out.2 (Or.inr (Or.inr (Or.inr (Or.inl c13)))))
    rw [decide_eq_false c9] at t9
    rw [decide_eq_false c10] at t10
    rw [decide_eq_false c12] at t12
    rw [decide_eq_true c13] at t13
    clear c9 c10 c12 c13 t32
    go_enter Tryz.func273, Tryz.ntmps273
    go_wp2_with fail
    go_ret
    exact ⟨tb_ret HX.out.symm, rfl⟩
  rw [decide_eq_false c9] at t9
  rw [decide_eq_false c10] at t10
  rw [decide_eq_false c12] at t12
  rw [decide_eq_false c13] at t13
  have HX : Hid (r = decide (c = 32)) := Lib.hid (by
    rw [Bool.eq_iff_iff, decide_eq_true_eq, HI.out]
    constructor
    · rintro (h | h | h | h | h)
      · exact absurd h c9
      · exact absurd h c10
      · exact absurd h c12
      · exact absurd h c13
      · exact h
    · intro h; exact Or.inr (Or.inr (Or.inr (Or.inr h))))
  clear c9 c10 c12 c13 HI
  generalize decide (c = 32) = q at *
  go_enter Tryz.func273, Tryz.ntmps273
  go_wp2_with fail
  go_ret
  exact ⟨tb_ret HX.out.symm, rfl⟩

end Go.Proofs.YtkhlfggnjcbniaaGreatDoor.cln
