/- Plain laws on strings as lists of bytes: strings.Cut at one byte. No program in sight. -/
import Derived.Lib.IndexMore
import Derived.Lib.IndexBytes
import Derived.Lib.Strings
namespace Go.Proofs.YtbaloklcpfjmeaaGreatDoor.str
open Go.Lib

/-- a text cut at the first byte c -/
def cut1 (c : UInt8) : List UInt8 → List UInt8 × List UInt8 × Bool
  | [] => ([], [], false)
  | b :: l => if b = c then ([], l, true) else (b :: (cut1 c l).1, (cut1 c l).2.1, (cut1 c l).2.2)

theorem cut_one (c : UInt8) (t : List UInt8) : Lib.cut t [c] = cut1 c t := by
  unfold Lib.cut
  rw [index_one]
  induction t with
  | nil => simp [indexByte, cut1]
  | cons b l ih =>
    by_cases h : b = c
    · subst h; simp [indexByte, cut1]
    · have hb : (b == c) = false := by simpa using h
      have hge := indexByte_ge l c
      rw [cut1, if_neg h, ← ih]
      by_cases hn : indexByte l c = -1
      · have e : indexByte (b :: l) c = -1 := by rw [indexByte, hb, hn]; rfl
        rw [e, hn]; rfl
      · obtain ⟨k, hk⟩ : ∃ k : Nat, indexByte l c = k := ⟨(indexByte l c).toNat, by omega⟩
        have e : indexByte (b :: l) c = ((k + 1 : Nat) : Int) := by
          have h2 : (indexByte l c == -1) = false := by simpa using hn
          rw [indexByte, hb, h2, hk]; simp
        rw [e, hk, if_pos (by omega), if_pos (by omega)]
        simp

theorem cut1_spec (c : UInt8) (t : List UInt8) : ((cut1 c t).2.2 = true ∧ t = (cut1 c t).1 ++ c :: (cut1 c t).2.1 ∧ c ∉ (cut1 c t).1) ∨ ((cut1 c t).2.2 = false ∧ (cut1 c t).1 = t ∧ (cut1 c t).2.1 = [] ∧ c ∉ t) := by
  induction t with
  | nil => right; simp [cut1]
  | cons b l ih =>
    unfold cut1
    by_cases h : b = c
    · subst h; left; simp
    · rw [if_neg h]
      rcases ih with ⟨h1, h2, h3⟩ | ⟨h1, h2, h3, h4⟩
      · left
        refine ⟨h1, ?_, ?_⟩
        · show b :: l = (b :: (cut1 c l).1) ++ c :: (cut1 c l).2.1
          rw [List.cons_append, ← h2]
        · simp only [List.mem_cons, not_or]
          exact ⟨fun e => h e.symm, h3⟩
      · right
        refine ⟨h1, ?_, h3, ?_⟩
        · show b :: (cut1 c l).1 = b :: l
          rw [h2]
        · simp only [List.mem_cons, not_or]
          exact ⟨fun e => h e.symm, h4⟩

theorem cut1_le (c : UInt8) (t : List UInt8) : (cut1 c t).1.length ≤ t.length ∧ (cut1 c t).2.1.length ≤ t.length := by
  rcases cut1_spec c t with ⟨_, h, _⟩ | ⟨_, h1, h2, _⟩
  · have := congrArg List.length h
    simp at this; omega
  · rw [h1, h2]; simp

end Go.Proofs.YtbaloklcpfjmeaaGreatDoor.str
