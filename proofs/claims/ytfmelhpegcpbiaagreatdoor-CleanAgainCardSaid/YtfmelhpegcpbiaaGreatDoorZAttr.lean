/- A list of attributes in memory: what it is, how it comes in, that it stays. -/
import Derived.Test.YtfmelhpegcpbiaaGreatDoorMa
import Derived.Test.YtfmelhpegcpbiaaGreatDoorZCardKit
namespace Go.Proofs.YtfmelhpegcpbiaaGreatDoor.atr
open Go.ChangeShapes Go.WideShapes Go.RowKit Go.Lib Go.Deep

def encA (x : Attr) : List Value := [.string ⟨x.1.toArray⟩, .string ⟨x.2.toArray⟩]
/-- its cells -/
def RowA (w : World) (b off : Nat) (l : List Attr) : Prop :=
  ∀ j (h : j < l.length), w.cell? ⟨b, off + j * 2, none⟩ = some (.string ⟨l[j].1.toArray⟩) ∧ w.cell? ⟨b, off + j * 2 + 1, none⟩ = some (.string ⟨l[j].2.toArray⟩)
/-- the slice -/
def AttrsAt (w : World) (v : Value) (l : List Attr) : Prop :=
  (l = [] ∧ ∃ oa cap, v = .slice oa 0 cap) ∨ ∃ b off cap, v = .slice (some ⟨b, off, none⟩) l.length cap ∧ 0 < l.length ∧ b < w.heap.size ∧ RowA w b off l

theorem RowA.below {w w' : World} {b off : Nat} {l : List Attr} (h : RowA w b off l) (hb : Below w.heap.size w w') (hlt : b < w.heap.size) : RowA w' b off l := by
  intro j hj
  obtain ⟨h1, h2⟩ := h j hj
  exact ⟨(hb.cell (p := ⟨b, off + j * 2, none⟩) hlt).trans h1, (hb.cell (p := ⟨b, off + j * 2 + 1, none⟩) hlt).trans h2⟩
theorem AttrsAt.below {w w' : World} {v : Value} {l : List Attr} (h : AttrsAt w v l) (hb : Below w.heap.size w w') : AttrsAt w' v l := by
  rcases h with h | ⟨b, off, cap, h1, h0, h2, h3⟩
  · exact .inl h
  · exact .inr ⟨b, off, cap, h1, h0, Nat.lt_of_lt_of_le h2 hb.size, h3.below hb h2⟩
theorem AttrsAt.nil (w : World) : AttrsAt w (.slice none 0 0) [] := .inl ⟨rfl, _, _, rfl⟩

/-- the bytes of a text -/
def strOf : Value → List UInt8
  | .string s => s.data.toList
  | _ => []

section
variable {H : Type} {enc : TypeId × Value → H} {W : World} {base : Nat} {sp : Nat → Bool} {held : Bool}
set_option maxRecDepth 100000 in
theorem open_attrs_cells {fuel : Nat} {cs : List Value} {x : DataW H × List MemPlace} (hlt : ∀ p ∈ x.2, p.block < W.heap.size) (h : DataW.trod enc Tryz.prog W base sp held fuel 22 cs = some x) :
    ∃ (v : Value) (l : List Attr), cs = [v] ∧ AttrsAt W v l ∧ l.length ≤ maxLen ∧ ∀ a ∈ l, a.1.length ≤ maxLen ∧ a.2.length ≤ maxLen := by
  rcases open_slice_pairs Tryz.underlying22 Tryz.underlying43 (by kernel_rfl) rfl rfl (by kernel_rfl) (by kernel_rfl) h with ⟨rfl, _⟩ | ⟨a, len, cap, m, n, V0, V1, D0, D1, P0, P1, rfl, hb, hl, hm, hmm, hx, hi⟩
  · exact ⟨_, [], rfl, AttrsAt.nil W, Nat.zero_le _, fun a h => by cases h⟩
  · have hml : len ≤ m := by rw [hmm]; split <;> omega
    have hs : ∀ i, i < len → V0 i = .string ⟨(strOf (V0 i)).toArray⟩ ∧ V1 i = .string ⟨(strOf (V1 i)).toArray⟩ ∧ (strOf (V0 i)).length ≤ maxLen ∧ (strOf (V1 i)).length ≤ maxLen := by
      intro i h
      obtain ⟨_, _, h3, h4⟩ := hi i (by omega)
      obtain ⟨s, e1, _, l1⟩ := DataW.trod_string Tryz.underlying9 h3
      obtain ⟨t, e2, _, l2⟩ := DataW.trod_string Tryz.underlying9 h4
      have e1 := (List.cons.inj e1).1
      have e2 := (List.cons.inj e2).1
      rw [e1, e2]
      exact ⟨rfl, rfl, by show s.data.toList.length ≤ _; rw [Array.length_toList]; exact l1, by show t.data.toList.length ≤ _; rw [Array.length_toList]; exact l2⟩
    refine ⟨_, (List.range len).map fun i => (strOf (V0 i), strOf (V1 i)), rfl, ?_, by simp; omega, ?_⟩
    · rcases Nat.eq_zero_or_pos len with h0 | h0
      · subst h0; exact .inl ⟨rfl, _, _, rfl⟩
      · right
        obtain ⟨b, off, spot⟩ := a
        have c0 := (hi 0 (by omega)).1
        have hspot : spot = none := by simpa [Addr.add] using World.cell?_spot c0
        subst hspot
        refine ⟨b, off, cap, by simp, by simpa using h0, ?_, ?_⟩
        · have := hlt (.cell b off) (by rw [hx]; exact List.mem_append_left _ (MemPlace.mem_row.2 ⟨0, by omega, rfl⟩))
          exact this
        · intro j hj
          have hj' : j < len := by simpa using hj
          obtain ⟨c1, c2, _, _⟩ := hi j (by omega)
          obtain ⟨e1, e2, _, _⟩ := hs j hj'
          rw [Go.WideShapes.add_plain] at c1 c2
          simp only [List.getElem_map, List.getElem_range]
          rw [← e1, ← e2]
          exact ⟨c1, by rw [Nat.add_assoc]; exact c2⟩
    · intro a ha
      obtain ⟨i, hi', rfl⟩ := List.mem_map.1 ha
      obtain ⟨_, _, l1, l2⟩ := hs i (List.mem_range.1 hi')
      exact ⟨l1, l2⟩
end
set_option maxRecDepth 100000 in
theorem open_attrs {H : Type} {enc : TypeId × Value → H} {W : World} {r : Reach} {b0 : Nat} {v : Value} {d : DataW H} {p : List MemPlace} (hv : Value.okWide Tryz.prog W r b0 22 v) (h : DataW.Trod enc Tryz.prog W 0 (fun _ => true) true 22 v d p) (hlt : ∀ q ∈ p, q.block < W.heap.size) :
    ∃ l : List Attr, AttrsAt W v l ∧ l.length ≤ maxLen ∧ ∀ a ∈ l, a.1.length ≤ maxLen ∧ a.2.length ≤ maxLen := by
  obtain ⟨a, len, cap, rfl⟩ := okWide_slice Tryz.underlying22 hv
  obtain ⟨fuel, hf⟩ := h
  obtain ⟨v, l, e, h1, h2⟩ := open_attrs_cells (x := (d, p)) hlt hf
  have e : v = .slice a len cap := by
    have : (Value.slice a len cap).cells.toList = [.slice a len cap] := rfl
    rw [this] at e
    exact (List.cons.inj e).1.symm
  subst e
  exact ⟨l, h1, h2⟩
end Go.Proofs.YtfmelhpegcpbiaaGreatDoor.atr
