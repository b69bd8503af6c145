/- The contracts of the reference's parse and Parse. -/
import Derived.Test.YtbaloklcpfjmeaaGreatDoorRClockW
namespace Go.Proofs.YtbaloklcpfjmeaaGreatDoor.mom
open Go.ChangeShapes Go.WideShapes Go.ChangeAt Go.RowKit Go.Lib Go.Proofs.YtbaloklcpfjmeaaGreatDoor.num Go.Proofs.YtbaloklcpfjmeaaGreatDoor.cal Go.Proofs.YtbaloklcpfjmeaaGreatDoor.days

theorem tells_ib {o : Option Int} {n m : Int} {b c : Bool} (h : o = if b then some n else none) (e : m = n) (g : c = b) (h1 : -100000000000000000 ≤ n) (h2 : n ≤ 100000000000000000) : Tells o (.returned (.tuple #[.int .i64 m, .bool c])) := ⟨n, b, by rw [e, g], h, h1, h2⟩

theorem atR_two (l : List UInt8) (k : Nat) (c d : UInt8) : atR l k [c, d] = (signR l k c && signR l (k + 1) d) := by
  unfold atR signR
  rcases Nat.lt_or_ge (k + 1) l.length with g | g
  · have e := List.drop_eq_getElem_cons (show k < l.length by omega)
    have e2 := List.drop_eq_getElem_cons g
    rw [List.getElem?_eq_getElem g, List.getElem?_eq_getElem (show k < l.length by omega), decide_eq_true (show k + [c, d].length ≤ l.length from g), Bool.true_and, Bool.eq_iff_iff]
    generalize l[k] = x at *
    generalize l[k + 1] = y at *
    generalize l.drop (k + 1 + 1) = r at e2
    rw [e, e2]
    simp
  · rw [List.getElem?_eq_none g, decide_eq_false (by simp only [List.length_cons, List.length_nil]; omega)]
    cases (l[k]? == some c) <;> rfl

/-- kind 2 -/
theorem monthR_is (l : List UInt8) (y n : Nat) (m : Int) (s : Bool) (h1 : (yearR l).1 = y) (h2 : (yearR l).2 = n) (h3 : signR l n 45 = s) (h4 : twoR l (n + 1) = m) :
    monthR l = if (0 < n ∧ l.length = n + 3) ∧ s = true ∧ 1 ≤ m ∧ m ≤ 12 then some (((y : Int) - 1970) * 12 + m - 1) else none := by
  subst h1 h2 h3 h4
  unfold monthR
  by_cases g : (yearR l).2 > 0 ∧ l.length = (yearR l).2 + 3 ∧ signR l (yearR l).2 45 = true ∧ 1 ≤ twoR l ((yearR l).2 + 1) ∧ twoR l ((yearR l).2 + 1) ≤ 12
  · rw [if_pos g, if_pos ⟨⟨g.1, g.2.1⟩, g.2.2⟩]
  · rw [if_neg g, if_neg (fun k => g ⟨k.1.1, k.1.2, k.2⟩)]
theorem weekR_is (l : List UInt8) (y n : Nat) (s : Bool) (m : Int) (h1 : (yearR l).1 = y) (h2 : (yearR l).2 = n) (h3 : atR l n [45, 87] = s) (h4 : twoR l (n + 2) = m) :
    weekR l = if n ≠ 0 ∧ l.length = n + 4 ∧ s = true then (if (monE y m).2 = 0 then some ((monE y m).1 * 86400000) else none) else none := by
  subst h1 h2 h3 h4
  rw [atR_two]
  have hm : (if (monE (yearR l).1 (twoR l ((yearR l).2 + 2))).2 = 0 then some ((monE (yearR l).1 (twoR l ((yearR l).2 + 2))).1 * 86400000) else none) = (if wOkI (yearR l).1 (twoR l ((yearR l).2 + 2)) then some ((firstW (yearR l).1 + 7 * (twoR l ((yearR l).2 + 2) - 1)) * 86400000) else none) := by
    by_cases g : wOkI (yearR l).1 (twoR l ((yearR l).2 + 2))
    · have e : monE (yearR l).1 (twoR l ((yearR l).2 + 2)) = (firstW (yearR l).1 + 7 * (twoR l ((yearR l).2 + 2) - 1), 0) := by unfold monE; exact if_pos g
      rw [e, if_pos rfl, if_pos g]
    · have e : monE (yearR l).1 (twoR l ((yearR l).2 + 2)) = (0, 2) := by unfold monE; exact if_neg g
      rw [e, if_neg (by decide), if_neg g]
  rw [hm]
  unfold weekR
  by_cases g : (yearR l).2 ≠ 0 ∧ l.length = (yearR l).2 + 4 ∧ signR l (yearR l).2 45 = true ∧ signR l ((yearR l).2 + 1) 87 = true
  · rw [if_pos g]
    exact (if_pos ⟨g.1, g.2.1, by rw [g.2.2.1, g.2.2.2]; rfl⟩).symm
  · rw [if_neg g]
    refine (if_neg ?_).symm
    rintro ⟨a, b, c⟩
    rw [Bool.and_eq_true] at c
    exact g ⟨a, b, c⟩
theorem monE_bound (y m : Int) : -800000 ≤ (monE y m).1 ∧ (monE y m).1 ≤ 200000000 ∧ ((monE y m).2 = 0 ∨ (monE y m).2 = 2) := by
  unfold monE
  split
  · rename_i h
    have a := firstW_near y
    have b := newY_bound y (by omega) (by omega)
    have c := weeksW_pos y
    dsimp only
    omega
  · dsimp only; omega

/-- no T and no blank ahead of a place -/
def noMid (l : List UInt8) (k : Nat) : Prop := (l.take k).all (fun c => !isMid c) = true
theorem noMid_next (l : List UInt8) (k : Nat) (h : k < l.length) (hn : noMid l k) (hc : isMid l[k] = false) : noMid l (k + 1) := by
  unfold noMid at *
  rw [List.take_add_one, List.getElem?_eq_getElem h, List.all_append, hn]
  simp [hc]
theorem noMid_end (l : List UInt8) (hn : noMid l l.length) : localR l = none := by
  unfold noMid at hn
  rw [List.take_length] at hn
  unfold localR
  rcases midR_spec l with ⟨h, _⟩ | ⟨p, c, r, h1, h2, h3, h4⟩
  · rw [h]
  · exfalso
    rw [h2, List.all_append, List.all_cons, h3] at hn
    simp at hn
theorem noMid_at (l : List UInt8) (k : Nat) (h : k < l.length) (hn : noMid l k) (hc : isMid l[k] = true) : localR l = match dayR (l.take k), clockR (l.drop (k + 1)) with | some d, some t => some (d + t) | _, _ => none := by
  have e : l = l.take k ++ l[k] :: l.drop (k + 1) := by rw [← List.drop_eq_getElem_cons h, List.take_append_drop]
  have := midR_at (l.take k) l[k] (l.drop (k + 1)) hn hc
  rw [← e] at this
  unfold localR
  rw [this]
  rfl
end Go.Proofs.YtbaloklcpfjmeaaGreatDoor.mom
