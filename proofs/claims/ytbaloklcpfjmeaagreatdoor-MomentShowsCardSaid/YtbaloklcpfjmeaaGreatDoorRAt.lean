/- The contract of the reference's at. -/
import Derived.Test.YtbaloklcpfjmeaaGreatDoorRYear
namespace Go.Proofs.YtbaloklcpfjmeaaGreatDoor.mom
open Go.ChangeShapes Go.WideShapes Go.ChangeAt Go.RowKit Go.Lib Go.Proofs.YtbaloklcpfjmeaaGreatDoor.num Go.Proofs.YtbaloklcpfjmeaaGreatDoor.cal Go.Proofs.YtbaloklcpfjmeaaGreatDoor.days

def atR (l : List UInt8) (k : Nat) (t : List UInt8) : Bool := decide (k + t.length ≤ l.length) && decide ((l.drop k).take t.length = t)

set_option maxHeartbeats 800000 in
set_option maxRecDepth 100000 in
theorem rat_any (l : List UInt8) (a : Int) (k : Nat) (t : List UInt8) (ha : a = k) (hl : l.length ≤ 1000000000) (ht : t.length ≤ 10) (hk : k ≤ 2000000000) (w : World) :
    Calls Tryz.prog 39 #[.string ⟨l.toArray⟩, .int .i64 a, .string ⟨t.toArray⟩] w fun e w' => e = .returned (.bool (atR l k t)) ∧ w = w' := by
  subst ha
  by_cases h : k + t.length ≤ l.length
  · have HX : Hid (atR l k t = decide ((l.drop k).take t.length = t)) := Lib.hid (by unfold atR; rw [decide_eq_true h]; rfl)
    go_enter Tryz.func39, Tryz.ntmps39
    go_wp2_with fail
    go_ret
    exact ⟨rret_bool (by rw [HX.out, Bool.eq_iff_iff]; simp), rfl⟩
  · have HX : Hid (atR l k t = false) := Lib.hid (by unfold atR; rw [decide_eq_false h]; rfl)
    go_enter Tryz.func39, Tryz.ntmps39
    go_wp2_with fail
    go_ret
    exact ⟨rret_bool HX.out.symm, rfl⟩
end Go.Proofs.YtbaloklcpfjmeaaGreatDoor.mom
