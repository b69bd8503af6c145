/- What is read of a number: its bounds: plain. -/
import Derived.Test.YtfmelhpegcpbiaaGreatDoorMa
namespace Go.Proofs.YtfmelhpegcpbiaaGreatDoor.num
open Go.Lib

theorem parse_bd (l : List UInt8) : -1000000000000000000 ≤ (parseS l).1 ∧ (parseS l).1 ≤ 1000000000000000000 ∧ 0 ≤ (parseS l).2 ∧ (parseS l).2 ≤ 2 := by
  by_cases h : (parseS l).2 = 0
  · have := (normal l h).1; omega
  · have h1 : (parseS l).1 = 0 := by
      rcases parseT_err (negB l) (unsigned l) with g | g
      · exact absurd g h
      · exact g
    rw [h1]
    refine ⟨by decide, by decide, ?_⟩
    unfold parseS
    rw [parse_form]
    split
    · simp
    · rcases fin_err (negB l) (str.cut1 46 (unsigned l)).1 (str.cut1 46 (unsigned l)).2.1 with g | g
      · rw [g]; simp
      · rw [g]; simp

end Go.Proofs.YtfmelhpegcpbiaaGreatDoor.num
