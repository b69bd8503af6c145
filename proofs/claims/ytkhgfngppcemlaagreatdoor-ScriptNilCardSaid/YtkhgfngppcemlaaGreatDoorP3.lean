/- Plain laws on strings as lists of bytes: strings.Cut at one byte. No program in sight. -/
import Derived.Lib.IndexBytes
import Derived.Lib.IndexMore
import Derived.Lib.Strings
namespace Go.Proofs.YtkhgfngppcemlaaGreatDoor.str
open Go.Lib

/-- a text cut at the first byte c -/
def cut1 (c : UInt8) : List UInt8 → List UInt8 × List UInt8 × Bool
  | [] => ([], [], false)
  | b :: l => if b = c then ([], l, true) else (b :: (cut1 c l).1, (cut1 c l).2.1, (cut1 c l).2.2)

theorem cut_one (c : UInt8) (t : List UInt8) : Lib.cut t [c] = cut1 c t := by
  unfold Lib.cut
  rw [index_one]
  induction t with
  | nil => simp [indexByte, cut1]
  | cons b l ih =>
    by_cases h : b = c
    · subst h; simp [indexByte, cut1]
    · have hb : (b == c) = false := by simpa using h
      have hge := indexByte_ge l c
      rw [cut1, if_neg h, ← ih]
      by_cases hn : indexByte l c = -1
      · have e : indexByte (b :: l) c = -1 := by rw [indexByte, hb, hn]; rfl
        rw [e, hn]; rfl
      · obtain ⟨k, hk⟩ : ∃ k : Nat, indexByte l c = k := ⟨(indexByte l c).toNat, by omega⟩
        have e : indexByte (b :: l) c = ((k + 1 : Nat) : Int) := by
          have h2 : (indexByte l c == -1) = false := by simpa using hn
          rw [indexByte, hb, h2, hk]; simp
        rw [e, hk, if_pos (by omega), if_pos (by omega)]
        simp

end Go.Proofs.YtkhgfngppcemlaaGreatDoor.str
