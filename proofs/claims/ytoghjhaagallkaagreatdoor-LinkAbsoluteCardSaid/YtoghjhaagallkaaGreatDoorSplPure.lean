/- Plain law: the pieces of a text by the cut at the first sign. No program in sight. -/
import Derived.Test.YtoghjhaagallkaaGreatDoorSplit
import Derived.Test.YtoghjhaagallkaaGreatDoorStrPure
namespace Go.Proofs.YtoghjhaagallkaaGreatDoor.link
open Go.Lib Go.Proofs.YtoghjhaagallkaaGreatDoor.str

theorem spl_cut (c : UInt8) (l : List UInt8) : ∀ acc, spl c acc l = (acc ++ (cut1 c l).1) :: (if (cut1 c l).2.2 = true then spl c [] (cut1 c l).2.1 else []) := by
  induction l with
  | nil => intro acc; simp [spl, cut1]
  | cons b r ih =>
    intro acc
    by_cases h : b = c
    · rw [spl, if_pos h, cut1, if_pos h]; simp
    · rw [spl, if_neg h, cut1, if_neg h, ih]; simp

theorem spl_len (c : UInt8) (l : List UInt8) : ∀ acc, (spl c acc l).length = l.count c + 1 := by
  induction l with
  | nil => intro acc; simp [spl]
  | cons b r ih =>
    intro acc
    by_cases h : b = c
    · subst h; rw [spl, if_pos rfl, List.length_cons, ih]; simp
    · rw [spl, if_neg h, ih, List.count_cons]; simp [h]
end Go.Proofs.YtoghjhaagallkaaGreatDoor.link
