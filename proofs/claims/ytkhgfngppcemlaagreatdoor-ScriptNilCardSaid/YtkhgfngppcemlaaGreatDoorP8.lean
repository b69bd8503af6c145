/- A slice in memory, told by its cells. -/
import Derived.Laws.OwnMore
import Derived.ProofKit
import Derived.WalkKit
namespace Go.Proofs.YtkhgfngppcemlaaGreatDoor
open Go.RowKit

def RowAt (w : World) (v : Value) (n : Nat) (xs : List Value) : Prop :=
  (n = 0 ∧ xs = [] ∧ ∃ oa cap, v = .slice oa 0 cap) ∨ ∃ b off cap, v = .slice (some ⟨b, off, none⟩) n cap ∧ 0 < n ∧ b < w.heap.size ∧ ∀ j u, xs[j]? = some u → w.cell? ⟨b, off + j, none⟩ = some u
theorem RowAt.below {w w' : World} {v : Value} {n : Nat} {xs : List Value} (h : RowAt w v n xs) {m : Nat} (hb : Below m w w') (hm : w.heap.size ≤ m) : RowAt w' v n xs := by
  rcases h with h | ⟨b, off, cap, h1, h0, h2, h3⟩
  · exact .inl h
  · exact .inr ⟨b, off, cap, h1, h0, Nat.lt_of_lt_of_le h2 hb.size, fun j u hj => (hb.cell (p := ⟨b, off + j, none⟩) (Nat.lt_of_lt_of_le h2 hm)).trans (h3 j u hj)⟩
theorem RowAt.of_owns {w : World} {base : Nat} {e : TypeId} {size : Nat} {v : Value} {n : Nat} {xs : List Value} (h : w.ownsRow base e size v n xs) : RowAt w v n xs := by
  rcases Nat.eq_zero_or_pos n with h0 | h0
  · left
    have hl := h.1
    rw [h0, Nat.zero_mul] at hl
    refine ⟨h0, List.length_eq_zero_iff.1 hl, ?_⟩
    rcases h.2 with ⟨rfl, _⟩ | ⟨g, cap, cur, rfl, _⟩
    · exact ⟨_, _, rfl⟩
    · exact ⟨_, _, by rw [h0]⟩
  · right
    rcases h.2 with ⟨_, h1⟩ | ⟨g, cap, cur, hv, hg, hc, h1, h2, h3, h4⟩
    · omega
    · subst hv
      refine ⟨g, 0, cap, rfl, h0, ?_, ?_⟩
      · apply Nat.lt_of_not_le; intro k
        rw [Array.getElem?_eq_none k] at hc; cases hc
      · intro j u hj
        rw [Nat.zero_add, h.cellAt j (by rw [← h.1]; exact (List.getElem?_eq_some_iff.1 hj).1)]
        exact hj
theorem RowAt.lenN {w : World} {v : Value} {n : Nat} {xs : List Value} (h : RowAt w v n xs) : ∃ oa cap, v = .slice oa n cap := by
  rcases h with ⟨rfl, _, oa, cap, rfl⟩ | ⟨b, off, cap, rfl, _⟩
  · exact ⟨_, _, rfl⟩
  · exact ⟨_, _, rfl⟩
theorem flat_len {α : Type} (f : α → List Value) (size : Nat) (hf : ∀ x, (f x).length = size) (l : List α) : (l.flatMap f).length = l.length * size := by
  induction l with
  | nil => simp
  | cons x r ih => rw [List.flatMap_cons, List.length_append, hf, ih, List.length_cons, Nat.add_mul, Nat.one_mul, Nat.add_comm]
theorem flat_at {α : Type} (f : α → List Value) (size : Nat) (hf : ∀ x, (f x).length = size) (l : List α) (j : Nat) (h : j < l.length) (i : Nat) (hi : i < size) : (l.flatMap f)[j * size + i]? = (f l[j])[i]? := by
  induction l generalizing j with
  | nil => exact absurd h (Nat.not_lt_zero _)
  | cons x r ih =>
    rw [List.flatMap_cons]
    cases j with
    | zero => rw [Nat.zero_mul, Nat.zero_add, List.getElem?_append_left (by rw [hf]; exact hi)]; rfl
    | succ j =>
      rw [List.getElem?_append_right (by rw [hf, Nat.add_mul]; omega), hf, show (j + 1) * size + i - size = j * size + i from by rw [Nat.add_mul]; omega]
      exact ih j (by simpa using h)
theorem flat_set {α : Type} (f : α → List Value) (size : Nat) (hf : ∀ x, (f x).length = size) (l : List α) (j : Nat) (h : j < l.length) (i : Nat) (hi : i < size) (u : Value) (y : α) (hy : (f l[j]).set i u = f y) : (l.flatMap f).set (j * size + i) u = (l.set j y).flatMap f := by
  induction l generalizing j with
  | nil => exact absurd h (Nat.not_lt_zero _)
  | cons x r ih =>
    rw [List.flatMap_cons]
    cases j with
    | zero =>
      rw [Nat.zero_mul, Nat.zero_add, List.set_append_left _ _ (by rw [hf]; exact hi), List.set_cons_zero, List.flatMap_cons]
      have hy : (f x).set i u = f y := hy
      rw [hy]
    | succ j =>
      rw [List.set_append_right _ _ (by rw [hf, Nat.add_mul]; omega), hf, show (j + 1) * size + i - size = j * size + i from by rw [Nat.add_mul]; omega, List.set_cons_succ, List.flatMap_cons]
      congr 1
      exact ih j (by simpa using h) hy
end Go.Proofs.YtkhgfngppcemlaaGreatDoor
