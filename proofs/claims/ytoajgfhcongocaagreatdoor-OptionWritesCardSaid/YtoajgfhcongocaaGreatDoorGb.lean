/- What a law's card asks behind its walk, whatever the law's parameters: it hands back true, and its arguments read as they did. A list of attributes in memory: what it is, how it comes in, that it stays. A slice in memory, told by its cells. Nodes and numbers in memory. The contracts of the search for an attribute: the program's (slices.IndexFunc with a closure), the reference's Find. Attributes found, letters made small: as ever, at greater bounds; the closures of this layer's searches. The contracts of tree.named, and of the reference's Name. A block of cells that is known whole, and may be written. The contracts of tree.find, tree.one, and of the reference's alone. The contract of the reference's alone. -/
import Derived.WalkKit
import Derived.ProofKit
import Derived.OpenShut
import Derived.WideKeyArgs
import Derived.Deep.SlicePairs
import Derived.Deep.Slices
import Derived.Test.YtoajgfhcongocaaGreatDoorGa
import Derived.Laws.OwnMore
import Derived.Test.YtoajgfhcongocaaGreatDoorShelf
import Derived.WalkSpells
import Derived.RegionTactic
import Derived.ChangeAlike
import Derived.Shelf.SlicesQ.IndexFunc
import Derived.Deep.CutBlock
import Derived.Deep.DeepCutAuto
import Derived.Deep.RegionHeld3
import Derived.BigQuiet
namespace Go.Proofs.YtoajgfhcongocaaGreatDoor
open Go.ChangeShapes Go.WideShapes Go.WideElems

section
variable {H : Type} {enc : TypeId × Value → H} {P : Program}
theorem trodAll_stays (hl : laidOutB P = true) {W W' : World} {sp' : Nat → Bool} : ∀ {ts : List TypeId} {vs : List Value} {ds : List (DataW H)} {ps : List MemPlace}, (∀ t ∈ ts, P.readableRec t = true ∧ t < P.types.size) →
    DataW.TrodAll enc P W 0 (fun _ => true) true ts vs ds ps → (∀ p ∈ ps, W.sameAt W' p) → (∀ p ∈ ps, sp' p.block = true) → DataW.TrodAll enc P W' 0 sp' true ts vs ds ps
  | [], vs, ds, ps, _, h, _, _ => by
    obtain ⟨rfl, rfl, rfl⟩ := trodAll_nil h
    exact trodAll_mk0
  | t :: ts, vs, ds, ps, ht, h, hs, hp => by
    obtain ⟨v, vs1, d, ds1, a, b, rfl, rfl, rfl, h1, h2⟩ := trodAll_cons h
    have e := ht t List.mem_cons_self
    exact ⟨a, b, Trod_stays hl e.1 e.2 h1 (fun p q => hs p (List.mem_append_left _ q)) (fun p q => hp p (List.mem_append_left _ q)),
      trodAll_stays hl (fun t q => ht t (List.mem_cons_of_mem _ q)) h2 (fun p q => hs p (List.mem_append_right _ q)) (fun p q => hp p (List.mem_append_right _ q)), rfl⟩
end
end Go.Proofs.YtoajgfhcongocaaGreatDoor

namespace Go.Proofs.YtoajgfhcongocaaGreatDoor.atr
open Go.ChangeShapes Go.WideShapes Go.RowKit Go.Lib Go.Deep

def encA (x : Attr) : List Value := [.string ⟨x.1.toArray⟩, .string ⟨x.2.toArray⟩]
/-- its cells -/
def RowA (w : World) (b off : Nat) (l : List Attr) : Prop :=
  ∀ j (h : j < l.length), w.cell? ⟨b, off + j * 2, none⟩ = some (.string ⟨l[j].1.toArray⟩) ∧ w.cell? ⟨b, off + j * 2 + 1, none⟩ = some (.string ⟨l[j].2.toArray⟩)
/-- the slice -/
def AttrsAt (w : World) (v : Value) (l : List Attr) : Prop :=
  (l = [] ∧ ∃ oa cap, v = .slice oa 0 cap) ∨ ∃ b off cap, v = .slice (some ⟨b, off, none⟩) l.length cap ∧ 0 < l.length ∧ b < w.heap.size ∧ RowA w b off l

theorem RowA.below {w w' : World} {b off : Nat} {l : List Attr} (h : RowA w b off l) (hb : Below w.heap.size w w') (hlt : b < w.heap.size) : RowA w' b off l := by
  intro j hj
  obtain ⟨h1, h2⟩ := h j hj
  exact ⟨(hb.cell (p := ⟨b, off + j * 2, none⟩) hlt).trans h1, (hb.cell (p := ⟨b, off + j * 2 + 1, none⟩) hlt).trans h2⟩
theorem AttrsAt.below {w w' : World} {v : Value} {l : List Attr} (h : AttrsAt w v l) (hb : Below w.heap.size w w') : AttrsAt w' v l := by
  rcases h with h | ⟨b, off, cap, h1, h0, h2, h3⟩
  · exact .inl h
  · exact .inr ⟨b, off, cap, h1, h0, Nat.lt_of_lt_of_le h2 hb.size, h3.below hb h2⟩
theorem AttrsAt.nil (w : World) : AttrsAt w (.slice none 0 0) [] := .inl ⟨rfl, _, _, rfl⟩

/-- the bytes of a text -/
def strOf : Value → List UInt8
  | .string s => s.data.toList
  | _ => []

section
variable {H : Type} {enc : TypeId × Value → H} {W : World} {base : Nat} {sp : Nat → Bool} {held : Bool}
set_option maxRecDepth 100000 in
theorem open_attrs_cells {fuel : Nat} {cs : List Value} {x : DataW H × List MemPlace} (hlt : ∀ p ∈ x.2, p.block < W.heap.size) (h : DataW.trod enc Tryz.prog W base sp held fuel 40 cs = some x) :
    ∃ (v : Value) (l : List Attr), cs = [v] ∧ AttrsAt W v l ∧ l.length ≤ maxLen ∧ ∀ a ∈ l, a.1.length ≤ maxLen ∧ a.2.length ≤ maxLen := by
  rcases open_slice_pairs Tryz.underlying40 Tryz.underlying76 (by kernel_rfl) rfl rfl (by kernel_rfl) (by kernel_rfl) h with ⟨rfl, _⟩ | ⟨a, len, cap, m, n, V0, V1, D0, D1, P0, P1, rfl, hb, hl, hm, hmm, hx, hi⟩
  · exact ⟨_, [], rfl, AttrsAt.nil W, Nat.zero_le _, fun a h => by cases h⟩
  · have hml : len ≤ m := by rw [hmm]; split <;> omega
    have hs : ∀ i, i < len → V0 i = .string ⟨(strOf (V0 i)).toArray⟩ ∧ V1 i = .string ⟨(strOf (V1 i)).toArray⟩ ∧ (strOf (V0 i)).length ≤ maxLen ∧ (strOf (V1 i)).length ≤ maxLen := by
      intro i h
      obtain ⟨_, _, h3, h4⟩ := hi i (by omega)
      obtain ⟨s, e1, _, l1⟩ := DataW.trod_string Tryz.underlying9 h3
      obtain ⟨t, e2, _, l2⟩ := DataW.trod_string Tryz.underlying9 h4
      have e1 := (List.cons.inj e1).1
      have e2 := (List.cons.inj e2).1
      rw [e1, e2]
      exact ⟨rfl, rfl, by show s.data.toList.length ≤ _; rw [Array.length_toList]; exact l1, by show t.data.toList.length ≤ _; rw [Array.length_toList]; exact l2⟩
    refine ⟨_, (List.range len).map fun i => (strOf (V0 i), strOf (V1 i)), rfl, ?_, by simp; omega, ?_⟩
    · rcases Nat.eq_zero_or_pos len with h0 | h0
      · subst h0; exact .inl ⟨rfl, _, _, rfl⟩
      · right
        obtain ⟨b, off, spot⟩ := a
        have c0 := (hi 0 (by omega)).1
        have hspot : spot = none := by simpa [Addr.add] using World.cell?_spot c0
        subst hspot
        refine ⟨b, off, cap, by simp, by simpa using h0, ?_, ?_⟩
        · have := hlt (.cell b off) (by rw [hx]; exact List.mem_append_left _ (MemPlace.mem_row.2 ⟨0, by omega, rfl⟩))
          exact this
        · intro j hj
          have hj' : j < len := by simpa using hj
          obtain ⟨c1, c2, _, _⟩ := hi j (by omega)
          obtain ⟨e1, e2, _, _⟩ := hs j hj'
          rw [Go.WideShapes.add_plain] at c1 c2
          simp only [List.getElem_map, List.getElem_range]
          rw [← e1, ← e2]
          exact ⟨c1, by rw [Nat.add_assoc]; exact c2⟩
    · intro a ha
      obtain ⟨i, hi', rfl⟩ := List.mem_map.1 ha
      obtain ⟨_, _, l1, l2⟩ := hs i (List.mem_range.1 hi')
      exact ⟨l1, l2⟩
end
set_option maxRecDepth 100000 in
theorem open_attrs {H : Type} {enc : TypeId × Value → H} {W : World} {r : Reach} {b0 : Nat} {v : Value} {d : DataW H} {p : List MemPlace} (hv : Value.okWide Tryz.prog W r b0 40 v) (h : DataW.Trod enc Tryz.prog W 0 (fun _ => true) true 40 v d p) (hlt : ∀ q ∈ p, q.block < W.heap.size) :
    ∃ l : List Attr, AttrsAt W v l ∧ l.length ≤ maxLen ∧ ∀ a ∈ l, a.1.length ≤ maxLen ∧ a.2.length ≤ maxLen := by
  obtain ⟨a, len, cap, rfl⟩ := okWide_slice Tryz.underlying40 hv
  obtain ⟨fuel, hf⟩ := h
  obtain ⟨v, l, e, h1, h2⟩ := open_attrs_cells (x := (d, p)) hlt hf
  have e : v = .slice a len cap := by
    have : (Value.slice a len cap).cells.toList = [.slice a len cap] := rfl
    rw [this] at e
    exact (List.cons.inj e).1.symm
  subst e
  exact ⟨l, h1, h2⟩
end Go.Proofs.YtoajgfhcongocaaGreatDoor.atr

namespace Go.Proofs.YtoajgfhcongocaaGreatDoor
open Go.RowKit

def RowAt (w : World) (v : Value) (n : Nat) (xs : List Value) : Prop :=
  (n = 0 ∧ xs = [] ∧ ∃ oa cap, v = .slice oa 0 cap) ∨ ∃ b off cap, v = .slice (some ⟨b, off, none⟩) n cap ∧ 0 < n ∧ b < w.heap.size ∧ ∀ j u, xs[j]? = some u → w.cell? ⟨b, off + j, none⟩ = some u
theorem RowAt.below {w w' : World} {v : Value} {n : Nat} {xs : List Value} (h : RowAt w v n xs) {m : Nat} (hb : Below m w w') (hm : w.heap.size ≤ m) : RowAt w' v n xs := by
  rcases h with h | ⟨b, off, cap, h1, h0, h2, h3⟩
  · exact .inl h
  · exact .inr ⟨b, off, cap, h1, h0, Nat.lt_of_lt_of_le h2 hb.size, fun j u hj => (hb.cell (p := ⟨b, off + j, none⟩) (Nat.lt_of_lt_of_le h2 hm)).trans (h3 j u hj)⟩
theorem RowAt.of_owns {w : World} {base : Nat} {e : TypeId} {size : Nat} {v : Value} {n : Nat} {xs : List Value} (h : w.ownsRow base e size v n xs) : RowAt w v n xs := by
  rcases Nat.eq_zero_or_pos n with h0 | h0
  · left
    have hl := h.1
    rw [h0, Nat.zero_mul] at hl
    refine ⟨h0, List.length_eq_zero_iff.1 hl, ?_⟩
    rcases h.2 with ⟨rfl, _⟩ | ⟨g, cap, cur, rfl, _⟩
    · exact ⟨_, _, rfl⟩
    · exact ⟨_, _, by rw [h0]⟩
  · right
    rcases h.2 with ⟨_, h1⟩ | ⟨g, cap, cur, hv, hg, hc, h1, h2, h3, h4⟩
    · omega
    · subst hv
      refine ⟨g, 0, cap, rfl, h0, ?_, ?_⟩
      · apply Nat.lt_of_not_le; intro k
        rw [Array.getElem?_eq_none k] at hc; cases hc
      · intro j u hj
        rw [Nat.zero_add, h.cellAt j (by rw [← h.1]; exact (List.getElem?_eq_some_iff.1 hj).1)]
        exact hj
theorem RowAt.lenN {w : World} {v : Value} {n : Nat} {xs : List Value} (h : RowAt w v n xs) : ∃ oa cap, v = .slice oa n cap := by
  rcases h with ⟨rfl, _, oa, cap, rfl⟩ | ⟨b, off, cap, rfl, _⟩
  · exact ⟨_, _, rfl⟩
  · exact ⟨_, _, rfl⟩
theorem flat_len {α : Type} (f : α → List Value) (size : Nat) (hf : ∀ x, (f x).length = size) (l : List α) : (l.flatMap f).length = l.length * size := by
  induction l with
  | nil => simp
  | cons x r ih => rw [List.flatMap_cons, List.length_append, hf, ih, List.length_cons, Nat.add_mul, Nat.one_mul, Nat.add_comm]
theorem flat_at {α : Type} (f : α → List Value) (size : Nat) (hf : ∀ x, (f x).length = size) (l : List α) (j : Nat) (h : j < l.length) (i : Nat) (hi : i < size) : (l.flatMap f)[j * size + i]? = (f l[j])[i]? := by
  induction l generalizing j with
  | nil => exact absurd h (Nat.not_lt_zero _)
  | cons x r ih =>
    rw [List.flatMap_cons]
    cases j with
    | zero => rw [Nat.zero_mul, Nat.zero_add, List.getElem?_append_left (by rw [hf]; exact hi)]; rfl
    | succ j =>
      rw [List.getElem?_append_right (by rw [hf, Nat.add_mul]; omega), hf, show (j + 1) * size + i - size = j * size + i from by rw [Nat.add_mul]; omega]
      exact ih j (by simpa using h)
theorem flat_set {α : Type} (f : α → List Value) (size : Nat) (hf : ∀ x, (f x).length = size) (l : List α) (j : Nat) (h : j < l.length) (i : Nat) (hi : i < size) (u : Value) (y : α) (hy : (f l[j]).set i u = f y) : (l.flatMap f).set (j * size + i) u = (l.set j y).flatMap f := by
  induction l generalizing j with
  | nil => exact absurd h (Nat.not_lt_zero _)
  | cons x r ih =>
    rw [List.flatMap_cons]
    cases j with
    | zero =>
      rw [Nat.zero_mul, Nat.zero_add, List.set_append_left _ _ (by rw [hf]; exact hi), List.set_cons_zero, List.flatMap_cons]
      have hy : (f x).set i u = f y := hy
      rw [hy]
    | succ j =>
      rw [List.set_append_right _ _ (by rw [hf, Nat.add_mul]; omega), hf, show (j + 1) * size + i - size = j * size + i from by rw [Nat.add_mul]; omega, List.set_cons_succ, List.flatMap_cons]
      congr 1
      exact ih j (by simpa using h) hy
end Go.Proofs.YtoajgfhcongocaaGreatDoor

namespace Go.Proofs.YtoajgfhcongocaaGreatDoor.doc
open Go.ChangeShapes Go.WideShapes Go.ChangeAt Go.RowKit Go.Lib Go.Proofs.YtoajgfhcongocaaGreatDoor.atr

def encI (k : Int) : List Value := [.int .i64 k]
def IntsAt (w : World) (v : Value) (ks : List Int) : Prop := RowAt w v ks.length (ks.flatMap encI)
theorem encI_len (x : Int) : (encI x).length = 1 := rfl
theorem IntsAt.below {w w' : World} {v : Value} {ks : List Int} (h : IntsAt w v ks) (hb : Below w.heap.size w w') : IntsAt w' v ks := RowAt.below h hb (Nat.le_refl _)
theorem IntsAt.nil (w : World) : IntsAt w (.slice none 0 0) [] := .inl ⟨rfl, rfl, _, _, rfl⟩
theorem ints_get (ks : List Int) (j : Nat) (h : j < ks.length) : (ks.flatMap encI)[j]? = some (.int .i64 ks[j]) := by
  have := flat_at encI 1 encI_len ks j h 0 (by decide)
  simpa [encI] using this
/-- a node's value -/
def nodeV (n : Nd) (va vk : Value) : Value := .agg #[.string ⟨n.name.toArray⟩, .string ⟨n.text.toArray⟩, va, .int .i64 n.parent, vk]
/-- a slice's length is within its room -/
def CapOk (v : Value) : Prop := ∀ a n c, v = .slice a n c → n ≤ c
theorem CapOk.nil : CapOk (.slice none 0 0) := fun a n c e => by cases e; exact Nat.le_refl _
/-- its cells -/
structure NodeAt (w : World) (b o : Nat) (n : Nd) (va vk : Value) : Prop where
  c0 : w.cell? ⟨b, o, none⟩ = some (.string ⟨n.name.toArray⟩)
  c1 : w.cell? ⟨b, o + 1, none⟩ = some (.string ⟨n.text.toArray⟩)
  c2 : w.cell? ⟨b, o + 2, none⟩ = some va
  c3 : w.cell? ⟨b, o + 3, none⟩ = some (.int .i64 n.parent)
  c4 : w.cell? ⟨b, o + 4, none⟩ = some vk
  attrs : AttrsAt w va n.attrs
  kids : IntsAt w vk n.kids
  cap : CapOk va
theorem NodeAt.below {w w' : World} {b o : Nat} {n : Nd} {va vk : Value} (h : NodeAt w b o n va vk) (hb : Below w.heap.size w w') : NodeAt w' b o n va vk :=
  ⟨cell_below hb h.c0, cell_below hb h.c1, cell_below hb h.c2, cell_below hb h.c3, cell_below hb h.c4, h.attrs.below hb, h.kids.below hb, h.cap⟩
/-- the slice -/
def NodesAt (w : World) (v : Value) (l : List Nd) : Prop :=
  (l = [] ∧ ∃ oa cap, v = .slice oa 0 cap) ∨ ∃ b off cap, v = .slice (some ⟨b, off, none⟩) l.length cap ∧ 0 < l.length ∧ b < w.heap.size ∧ ∀ j (h : j < l.length), ∃ va vk, NodeAt w b (off + j * 5) l[j] va vk
theorem NodesAt.below {w w' : World} {v : Value} {l : List Nd} (h : NodesAt w v l) (hb : Below w.heap.size w w') : NodesAt w' v l := by
  rcases h with h | ⟨b, off, cap, h1, h0, h2, h3⟩
  · exact .inl h
  · exact .inr ⟨b, off, cap, h1, h0, Nat.lt_of_lt_of_le h2 hb.size, fun j hj => by
      obtain ⟨va, vk, h⟩ := h3 j hj
      exact ⟨va, vk, h.below hb⟩⟩
theorem NodesAt.lenN {w : World} {v : Value} {l : List Nd} (h : NodesAt w v l) : ∃ oa cap, v = .slice oa l.length cap := by
  rcases h with ⟨rfl, oa, cap, rfl⟩ | ⟨b, off, cap, rfl, _⟩
  · exact ⟨_, _, rfl⟩
  · exact ⟨_, _, rfl⟩
/-- a slice with a node in it has an address -/
theorem NodesAt.at {w : World} {v : Value} {l : List Nd} (h : NodesAt w v l) (h0 : 0 < l.length) : ∃ b off cap, v = .slice (some ⟨b, off, none⟩) l.length cap ∧ b < w.heap.size ∧ ∀ k, 0 ≤ k → k < (l.length : Int) → ∃ va vk, NodeAt w b (off + k.toNat * 5) (nd l k) va vk := by
  rcases h with ⟨rfl, _⟩ | ⟨b, off, cap, rfl, _, hb, hc⟩
  · exact absurd h0 (Nat.lt_irrefl _)
  · refine ⟨b, off, cap, rfl, hb, fun k k0 k1 => ?_⟩
    have hk : k.toNat < l.length := by omega
    obtain ⟨va, vk, h⟩ := hc k.toNat hk
    refine ⟨va, vk, ?_⟩
    have := nd_cast l k.toNat hk
    rw [show ((k.toNat : Nat) : Int) = k from by omega] at this
    rw [this]; exact h
/-- sizes -/
def BIG : Nat := 140737488355328
structure NFine (n : Nd) : Prop where
  name : n.name.length ≤ 140737488355328
  text : n.text.length ≤ 140737488355328
  attrs : n.attrs.length ≤ 140737488355328
  kids : n.kids.length ≤ 17592186044416
  an : ∀ a ∈ n.attrs, a.1.length ≤ 140737488355328 ∧ a.2.length ≤ 140737488355328
  par : (Lit.int .i64 n.parent).wf = true
  kid : ∀ k ∈ n.kids, (Lit.int .i64 k).wf = true
structure LFine (l : List Nd) : Prop where
  len : l.length ≤ 17592186044416
  each : ∀ n ∈ l, NFine n
theorem LFine.nd {l : List Nd} (h : LFine l) (k : Int) (h0 : 0 ≤ k) (h1 : k < (l.length : Int)) : NFine (nd l k) := by
  have hk : k.toNat < l.length := by omega
  have := nd_cast l k.toNat hk
  rw [show ((k.toNat : Nat) : Int) = k from by omega] at this
  rw [this]
  exact h.each _ (List.getElem_mem hk)
theorem wf_range {x : Int} (h : (Lit.int .i64 x).wf = true) : -9223372036854775808 ≤ x ∧ x ≤ 9223372036854775807 := by
  have h : (decide (IntKind.i64.min ≤ x) && decide (x ≤ IntKind.i64.max)) = true := h
  rw [Bool.and_eq_true, decide_eq_true_eq, decide_eq_true_eq] at h
  exact h
end Go.Proofs.YtoajgfhcongocaaGreatDoor.doc

namespace Go.Proofs.YtoajgfhcongocaaGreatDoor.atr
open Go.ChangeShapes Go.WideShapes Go.ChangeAt Go.RowKit Go.Lib

theorem aret_int {a b : Int} (h : a = b) : Ending.returned (.int .i64 a) = .returned (.int .i64 b) := by rw [h]
theorem aret_sb {a b : List UInt8} {c d : Bool} (h : a = b) (g : c = d) : Ending.returned (.tuple #[.string ⟨a.toArray⟩, .bool c]) = .returned (.tuple #[.string ⟨b.toArray⟩, .bool d]) := by rw [h, g]
theorem lst_eq (a b : List UInt8) : (a == b) = decide (a = b) := by
  rw [Bool.eq_iff_iff, beq_iff_eq, decide_eq_true_eq]

def attrS (nm : List UInt8) (l : List Attr) : List UInt8 := (fval nm l).getD []
def attrB (nm : List UInt8) (l : List Attr) : Bool := (fval nm l).isSome

theorem fint_ways (nm : List UInt8) (l : List Attr) : (∃ (k : Nat) (h : k < l.length), fint nm l = k ∧ l[k].1 = nm ∧ (∀ j (hj : j < k), l[j].1 ≠ nm) ∧ fval nm l = some l[k].2) ∨ (fint nm l = -1 ∧ (∀ j (hj : j < l.length), l[j].1 ≠ nm) ∧ fval nm l = none) := by
  unfold fint
  rcases find_ways nm l with ⟨k, h, h1, h2, h3, h4⟩ | ⟨h1, h2, h3⟩
  · left; exact ⟨k, h, by rw [h1, if_pos h], h2, h3, h4⟩
  · right; exact ⟨by rw [h1, if_neg (Nat.lt_irrefl _)], h2, h3⟩
theorem fint_idx (nm : List UInt8) (l : List Attr) : Lib.idxBy (fun _ (y : Attr) => decide (y.1 = nm)) (l.take l.length) default = fint nm l := by
  rcases fint_ways nm l with ⟨k, h, h1, h2, h3, h4⟩ | ⟨h1, h2, h3⟩
  · rw [h1]
    exact Lib.idxBy_hit (fun _ (y : Attr) => decide (y.1 = nm)) l l.length k default h (Nat.le_refl _) (by rw [getElem!_pos l k h]; exact decide_eq_true h2)
      (fun j hj => by rw [getElem!_pos l j (by omega)]; exact decide_eq_false (h3 j hj))
  · rw [h1]
    exact Lib.idxBy_miss (fun _ (y : Attr) => decide (y.1 = nm)) l l.length default (fun j hj => by rw [getElem!_pos l j hj]; exact decide_eq_false (h2 j hj))

set_option maxHeartbeats 1600000 in
set_option maxRecDepth 100000 in
theorem rfind_any (v : Value) (l : List Attr) (nm : List UInt8) (hl : l.length ≤ 1000000000) (w : World) (hA : AttrsAt w v l) :
    Calls Tryz.prog 51 #[v, .string ⟨nm.toArray⟩] w fun e w' => e = .returned (.int .i64 (fint nm l)) ∧ w = w' := by
  have hw := fint_ways nm l
  generalize fint nm l = r at *
  have HW := Lib.hid hw
  clear hw
  rcases hA with ⟨rfl, oa, cap, rfl⟩ | ⟨b, off, cap, rfl, h0, hb, hR⟩
  · have HX : Hid (r = -1) := Lib.hid (by
      rcases HW.out with ⟨k, h, _⟩ | ⟨h, _⟩
      · exact absurd h (Nat.not_lt_zero _)
      · exact h)
    clear HW
    go_enter Tryz.func51, Tryz.ntmps51
    go_wp2_with fail
    go_loopw [5] (fun s5 wr => s5 = .int .i64 0 ∧ w = wr) (fun _ _ => 0)
    case atStart => exact ⟨rfl, rfl⟩
    case round =>
      obtain ⟨rfl, rfl⟩ := hrel
      go_wp2_with fail
      go_ret
      exact ⟨aret_int HX.out.symm, rfl⟩
  · go_enter Tryz.func51, Tryz.ntmps51
    go_wp2_with fail
    go_loopw [5] (fun s5 wr => ∃ k : Nat, s5 = .int .i64 k ∧ k ≤ l.length ∧ Hid (∀ j (hj : j < k) (hl : j < l.length), l[j].1 ≠ nm) ∧ w = wr) (fun s5 _ => (1000000001 - RowKit.intOf s5).toNat)
    case atStart => exact ⟨0, rfl, by omega, Lib.hid (fun j hj => absurd hj (Nat.not_lt_zero _)), rfl⟩
    case round =>
      obtain ⟨k, rfl, hk, hn, rfl⟩ := hrel
      by_cases hlt : k < l.length
      · obtain ⟨c1, c2⟩ := hR k hlt
        have he := lst_eq l[k].1 nm
        by_cases hq : l[k].1 = nm
        · have HX : Hid (r = k) := Lib.hid (by
            rcases HW.out with ⟨j, h, h1, h2, h3, _⟩ | ⟨_, h, _⟩
            · have : j = k := by
                rcases Nat.lt_trichotomy j k with g | g | g
                · exact absurd h2 (hn.out j g h)
                · exact g
                · exact absurd hq (h3 k g)
              rw [h1, this]
            · exact absurd hq (h k hlt))
          rw [decide_eq_true hq] at he
          generalize l[k].1 = x at *
          generalize l[k].2 = y at *
          clear hn hq
          go_wp2_with fail
          go_ret
          exact ⟨aret_int HX.out.symm, rfl⟩
        · have HX : Hid (∀ j (hj : j < k + 1) (hl : j < l.length), l[j].1 ≠ nm) := Lib.hid (by
            intro j hj hl
            rcases Nat.lt_or_ge j k with g | g
            · exact hn.out j g hl
            · have : j = k := by omega
              subst this; exact hq)
          rw [decide_eq_false hq] at he
          generalize l[k].1 = x at *
          generalize l[k].2 = y at *
          clear hn hq
          go_wp2_with fail
          go_roundw
          case rel => exact ⟨k + 1, rfl, by omega, HX, by first | rfl | trivial⟩
          case measure => simp [RowKit.intOf]; omega
      · have HX : Hid (r = -1) := Lib.hid (by
          rcases HW.out with ⟨j, h, h1, h2, _⟩ | ⟨h, _⟩
          · exact absurd h2 (hn.out j (by omega) h)
          · exact h)
        clear hn
        go_wp2_with fail
        go_ret
        exact ⟨aret_int HX.out.symm, rfl⟩

/-! ### the program's: slices.IndexFunc with a closure that holds the name -/
theorem isAggA : ∀ w, (isAgg 76).run Tryz.prog w = .ok true w := Tryz.isAgg76
theorem sizeA : ∀ w, (Go.sizeOf 76).run Tryz.prog w = .ok 2 w := Tryz.sizeOf76


/-- the empty list's search -/
theorem idxf_empty (oa : Option Addr) (cap : Nat) (g : Nat) (lb : Array Value) (w : World) :
    Calls Tryz.prog 71 #[.slice oa 0 cap, .func (.func g) #[] lb] w fun e w' => e = .returned (.int .i64 (-1)) ∧ w = w' := by
  go_enter Tryz.func71, Tryz.ntmps71
  go_wp2_with fail
  go_loopw [5, 8] (fun _ s8 wr => s8 = .int .i64 0 ∧ w = wr) (fun _ _ _ => 0)
  case atStart => exact ⟨rfl, rfl⟩
  case round =>
    obtain ⟨rfl, rfl⟩ := hrel
    go_wp2_with fail
    go_ret
    exact ⟨rfl, rfl⟩

theorem row_cells {w : World} {b off : Nat} {l : List Attr} (hR : RowA w b off l) : ∀ j, j < l.length → ∀ i v, (encA l[j]!)[i]? = some v → w.cell? ⟨b, off + j * 2 + i, none⟩ = some v := by
  intro j hj i v hi
  obtain ⟨h1, h2⟩ := hR j hj
  rw [getElem!_pos l j hj] at hi
  match i, hi with
  | 0, hi => rw [← Option.some.inj hi]; exact h1
  | 1, hi => rw [← Option.some.inj hi]; exact h2
  | i + 2, hi => simp [encA] at hi

/-- slices.IndexFunc by a predicate on the name -/
theorem idxf_any (g : Nat) (lb : Array Value) (eg : ∀ args w, (callFunc g args).run Tryz.prog w = .ok (.enter g args) w) (nm : List UInt8) (v : Value) (l : List Attr) (hl : l.length ≤ 1000000000) (w : World) (hA : AttrsAt w v l)
    (hp : PredBelow Tryz.prog g lb (fun x => .agg (encA x).toArray) (fun x => decide (x.1 = nm)) w) :
    Calls Tryz.prog 71 #[v, .func (.func g) #[] lb] w fun e w' => e = .returned (.int .i64 (fint nm l)) ∧ Below w.heap.size w w' := by
  rcases hA with ⟨rfl, oa, cap, rfl⟩ | ⟨b, off, cap, rfl, h0, hb, hR⟩
  · exact (idxf_empty oa cap g lb w).mono fun e w' h => ⟨h.1, by rw [← h.2]; exact Below.refl _ _⟩
  · have h := AnyQ.slices_IndexFunc Tryz.laysg71 2 isAggA sizeA encA (fun _ => rfl) (fun x => decide (x.1 = nm)) g lb eg b off l.length cap l w hp (Nat.le_refl _) (by omega) hb (row_cells hR)
    rw [fint_idx] at h
    exact h

end Go.Proofs.YtoajgfhcongocaaGreatDoor.atr

namespace Go.Proofs.YtoajgfhcongocaaGreatDoor.doc
open Go.ChangeShapes Go.WideShapes Go.ChangeAt Go.RowKit Go.Lib Go.Proofs.YtoajgfhcongocaaGreatDoor.atr Go.Proofs.YtoajgfhcongocaaGreatDoor.link

set_option maxHeartbeats 1600000 in
set_option maxRecDepth 100000 in
theorem rlowerN_any (l : List UInt8) (hl : l.length ≤ 140737488355328) (w : World) :
    Calls Tryz.prog 68 #[.string ⟨l.toArray⟩] w fun e w' => e = .returned (.string ⟨(lowS l).toArray⟩) ∧ Below w.heap.size w w' := by
  obtain ⟨i0, hi, hz0, hz1, hz2⟩ := info_parts infoU8
  obtain ⟨B, hB⟩ : ∃ B, B = w.heap.size := ⟨_, rfl⟩
  rw [← hB]
  have HB := Lib.hid hB
  clear hB
  go_enter Tryz.func68, Tryz.ntmps68
  go_wp2_with fail
  go_loopw [3, 4] (fun v i wr => ∃ k : Nat, k ≤ l.length ∧ i = .int .i64 k ∧ wr.ownsRow B 5 1 v k (cellsOf (lowS (l.take k))) ∧ Below B w wr ∧ B ≤ wr.heap.size) (fun _ i _ => l.length - (RowKit.intOf i).toNat)
  case atStart => exact ⟨0, by omega, rfl, World.ownsRow_nil _ _ _ _, by rw [HB.out]; exact Below.refl _ _, by rw [HB.out]; omega⟩
  case round =>
    obtain ⟨k, hk, rfl, hown, hb, hbs⟩ := hrel
    by_cases hlt : k < l.length
    · obtain ⟨c, rest, hd1, hd2, hidx⟩ := Go.Proofs.YtoajgfhcongocaaGreatDoor.link.byte_at l k hlt
      have HS := Lib.hid (low_step l k c rest hd1)
      have hlt8 := c.toNat_lt
      clear hd1 hd2
      by_cases g : 65 ≤ c.toNat ∧ c.toNat ≤ 90
      · have HL := Lib.hid (lowC_in c g)
        obtain ⟨g1, g2⟩ := g
        go_wp2_with (first
          | (at_builtin; refine wpList_append_own _ rfl _ _ 92 rfl B 5 i0 (.int .u8 0) 1 1 Tryz.underlying92 hi hz0 hz1 hz2 rfl (by decide) _ _ _ rfl (hown.alloc _) ⟨wr.heap.size, 0, none⟩ 1 1 [.int .u8 ((c.toNat : Int) + 32)] rfl rfl ?c1 ?c2 ?c3 ?c4 ?c5 ?_)
          | go_in)
        case c1 => exact cell_one_new _ _ _
        case c2 => intro u hu; simp at hu; subst hu; rfl
        case c3 => unfold maxLen; omega
        case c4 => omega
        case c5 => simp; omega
        · intro v' w1 hown' hgrow _
          have hr := low_rel w wr w1 B _ _ k _ _ hown hb hbs hgrow
          have ho2 : w1.ownsRow B 5 1 v' (k + 1) (cellsOf (lowS (l.take (k + 1)))) := by rw [HS.out, HL.out]; exact hown'
          clear hown' hgrow hown
          go_wp2_with fail
          go_roundw
          case rel => exact ⟨k + 1, by omega, by go_num, ho2, hr.1, hr.2⟩
          case measure => simp [RowKit.intOf]; omega
      · have HL := Lib.hid (lowC_out c g)
        rcases (show c.toNat < 65 ∨ (65 ≤ c.toNat ∧ 90 < c.toNat) by omega) with g1 | ⟨g1, g2⟩
        all_goals
          clear g
          go_wp2_with (first
            | (at_builtin; refine wpList_append_own _ rfl _ _ 92 rfl B 5 i0 (.int .u8 0) 1 1 Tryz.underlying92 hi hz0 hz1 hz2 rfl (by decide) _ _ _ rfl (hown.alloc _) ⟨wr.heap.size, 0, none⟩ 1 1 [.int .u8 (c.toNat : Int)] rfl rfl ?_ ?_ ?_ ?_ ?_ ?_)
            | go_in)
          all_goals first | exact cell_one_new _ _ _ | (show Value.oneCell' _ = true; rfl) | (intro u hu; simp at hu; subst hu; rfl) | (unfold maxLen; omega) | omega | (simp; omega) | skip
          intro v' w1 hown' hgrow _
          have hr := low_rel w wr w1 B _ _ k _ _ hown hb hbs hgrow
          have ho2 : w1.ownsRow B 5 1 v' (k + 1) (cellsOf (lowS (l.take (k + 1)))) := by rw [HS.out, HL.out]; exact hown'
          clear hown' hgrow hown
          go_wp2_with fail
          go_roundw
          case rel => exact ⟨k + 1, by omega, by go_num, ho2, hr.1, hr.2⟩
          case measure => simp [RowKit.intOf]; omega
    · obtain rfl : k = l.length := by omega
      rw [List.take_length] at hown
      have hcv := own_string wr B _ (lowS l) l.length (by simp [lowS]) hown
      clear hown
      go_wp2_with fail
      go_ret
      exact ⟨rfl, hb⟩

set_option maxHeartbeats 1600000 in
set_option maxRecDepth 100000 in
theorem tlowerN_any (l : List UInt8) (hl : l.length ≤ 140737488355328) (w : World) :
    Calls Tryz.prog 79 #[.string ⟨l.toArray⟩] w fun e w' => e = .returned (.string ⟨(lowS l).toArray⟩) ∧ Below w.heap.size w w' := by
  have hcv := run_bytes_of_string (P := Tryz.prog) w 9 92 5 ⟨l.toArray⟩ Tryz.underlying9 Tryz.underlying92 Tryz.underlying5
  generalize grownCap w (⟨l.toArray⟩ : ByteArray).size 0 5 = cap at hcv
  have hnew := buf_new w l cap
  have hbel : Below w.heap.size w (w.drew.alloc (.cells (bytesRow ⟨l.toArray⟩ cap) 5 ((bytesRow ⟨l.toArray⟩ cap).size, (bytesRow ⟨l.toArray⟩ cap).size + 1))) := (Below.refl _ w).drew.alloc (Nat.le_refl _) _
  generalize (w.drew.alloc (.cells (bytesRow ⟨l.toArray⟩ cap) 5 ((bytesRow ⟨l.toArray⟩ cap).size, (bytesRow ⟨l.toArray⟩ cap).size + 1))) = w1 at *
  obtain ⟨B, hB⟩ : ∃ B, B = w.heap.size := ⟨_, rfl⟩
  rw [← hB] at hcv hnew hbel ⊢
  clear hB
  rw [bsize] at hcv
  go_enter Tryz.func79, Tryz.ntmps79
  go_wp2_with fail
  clear hcv
  go_loopw [10] (fun s wr => ∃ k : Nat, s = .int .i64 k ∧ k ≤ l.length ∧ Buf wr B (mixS l k) ∧ Below B w wr) (fun s _ => l.length - (RowKit.intOf s).toNat)
  case atStart => exact ⟨0, rfl, by omega, by simpa [mixS, lowS] using hnew, hbel⟩
  case round =>
    obtain ⟨k, rfl, hk, hbuf, hb⟩ := hrel
    clear hnew hbel
    by_cases hlt : k < l.length
    · obtain ⟨c, rest, hd1, hd2, hidx⟩ := Go.Proofs.YtoajgfhcongocaaGreatDoor.link.byte_at l k hlt
      have hml := mix_len l k hk
      have hcell := buf_cell hbuf k _ (mix_at l k c rest hlt hd1)
      have hfr := buf_frozen hbuf k (by omega)
      have hlt8 := c.toNat_lt
      by_cases g : 65 ≤ c.toNat ∧ c.toNat ≤ 90
      · have hset := buf_set hbuf k (by omega) (.int .u8 (lowC c).toNat)
        rw [← mix_step l k c rest hlt hd1, lowC_in c g, show (c.toNat : Int) + 32 = (c.toNat : Int) + 97 - 65 from by omega] at hset
        have hbs := hb.setCell (p := ⟨B, k, none⟩) (Nat.le_refl _) (.int .u8 ((c.toNat : Int) + 97 - 65))
        obtain ⟨g1, g2⟩ := g
        clear hd1 hd2 hidx hbuf hb
        go_wp2_with fail
        go_roundw
        case rel => exact ⟨k + 1, by go_num, by omega, hset, hbs⟩
        case measure => simp [RowKit.intOf]; omega
      · have hsame := hbuf
        rw [← mix_same l k c rest hlt hd1 (lowC_out c g)] at hsame
        have g' := (show c.toNat < 65 ∨ (65 ≤ c.toNat ∧ 90 < c.toNat) by omega)
        clear hd1 hd2 hidx hbuf g
        rcases g' with g1 | ⟨g1, g2⟩
        · go_wp2_with fail
          go_roundw
          case rel => exact ⟨k + 1, by go_num, by omega, hsame, hb⟩
          case measure => simp [RowKit.intOf]; omega
        · go_wp2_with fail
          go_roundw
          case rel => exact ⟨k + 1, by go_num, by omega, hsame, hb⟩
          case measure => simp [RowKit.intOf]; omega
    · obtain rfl : k = l.length := by omega
      have hm : mixS l l.length = cellsOf (lowS l) := by simp [mixS]
      rw [hm] at hbuf
      have hcs := buf_string hbuf cap l.length (by simp [lowS])
      clear hbuf
      go_wp2_with fail
      go_ret
      exact ⟨rfl, hb⟩

set_option maxHeartbeats 1600000 in
set_option maxRecDepth 100000 in
theorem rfindN_any (v : Value) (l : List Attr) (nm : List UInt8) (hl : l.length ≤ 140737488355328) (w : World) (hA : AttrsAt w v l) :
    Calls Tryz.prog 51 #[v, .string ⟨nm.toArray⟩] w fun e w' => e = .returned (.int .i64 (fint nm l)) ∧ w = w' := by
  have hw := fint_ways nm l
  generalize fint nm l = r at *
  have HW := Lib.hid hw
  clear hw
  rcases hA with ⟨rfl, oa, cap, rfl⟩ | ⟨b, off, cap, rfl, h0, hb, hR⟩
  · have HX : Hid (r = -1) := Lib.hid (by
      rcases HW.out with ⟨k, h, _⟩ | ⟨h, _⟩
      · exact absurd h (Nat.not_lt_zero _)
      · exact h)
    clear HW
    go_enter Tryz.func51, Tryz.ntmps51
    go_wp2_with fail
    go_loopw [5] (fun s5 wr => s5 = .int .i64 0 ∧ w = wr) (fun _ _ => 0)
    case atStart => exact ⟨rfl, rfl⟩
    case round =>
      obtain ⟨rfl, rfl⟩ := hrel
      go_wp2_with fail
      go_ret
      exact ⟨aret_int HX.out.symm, rfl⟩
  · go_enter Tryz.func51, Tryz.ntmps51
    go_wp2_with fail
    go_loopw [5] (fun s5 wr => ∃ k : Nat, s5 = .int .i64 k ∧ k ≤ l.length ∧ Hid (∀ j (hj : j < k) (hl : j < l.length), l[j].1 ≠ nm) ∧ w = wr) (fun s5 _ => (140737488355329 - RowKit.intOf s5).toNat)
    case atStart => exact ⟨0, rfl, by omega, Lib.hid (fun j hj => absurd hj (Nat.not_lt_zero _)), rfl⟩
    case round =>
      obtain ⟨k, rfl, hk, hn, rfl⟩ := hrel
      by_cases hlt : k < l.length
      · obtain ⟨c1, c2⟩ := hR k hlt
        have he := lst_eq l[k].1 nm
        by_cases hq : l[k].1 = nm
        · have HX : Hid (r = k) := Lib.hid (by
            rcases HW.out with ⟨j, h, h1, h2, h3, _⟩ | ⟨_, h, _⟩
            · have : j = k := by
                rcases Nat.lt_trichotomy j k with g | g | g
                · exact absurd h2 (hn.out j g h)
                · exact g
                · exact absurd hq (h3 k g)
              rw [h1, this]
            · exact absurd hq (h k hlt))
          rw [decide_eq_true hq] at he
          generalize l[k].1 = x at *
          generalize l[k].2 = y at *
          clear hn hq
          go_wp2_with fail
          go_ret
          exact ⟨aret_int HX.out.symm, rfl⟩
        · have HX : Hid (∀ j (hj : j < k + 1) (hl : j < l.length), l[j].1 ≠ nm) := Lib.hid (by
            intro j hj hl
            rcases Nat.lt_or_ge j k with g | g
            · exact hn.out j g hl
            · have : j = k := by omega
              subst this; exact hq)
          rw [decide_eq_false hq] at he
          generalize l[k].1 = x at *
          generalize l[k].2 = y at *
          clear hn hq
          go_wp2_with fail
          go_roundw
          case rel => exact ⟨k + 1, rfl, by omega, HX, by first | rfl | trivial⟩
          case measure => simp [RowKit.intOf]; omega
      · have HX : Hid (r = -1) := Lib.hid (by
          rcases HW.out with ⟨j, h, h1, h2, _⟩ | ⟨h, _⟩
          · exact absurd h2 (hn.out j (by omega) h)
          · exact h)
        clear hn
        go_wp2_with fail
        go_ret
        exact ⟨aret_int HX.out.symm, rfl⟩

theorem idxfN_any (g : Nat) (lb : Array Value) (eg : ∀ args w, (callFunc g args).run Tryz.prog w = .ok (.enter g args) w) (nm : List UInt8) (v : Value) (l : List Attr) (hl : l.length ≤ 140737488355328) (w : World) (hA : AttrsAt w v l)
    (hp : PredBelow Tryz.prog g lb (fun x => .agg (encA x).toArray) (fun x => decide (x.1 = nm)) w) :
    Calls Tryz.prog 71 #[v, .func (.func g) #[] lb] w fun e w' => e = .returned (.int .i64 (fint nm l)) ∧ Below w.heap.size w w' := by
  rcases hA with ⟨rfl, oa, cap, rfl⟩ | ⟨b, off, cap, rfl, h0, hb, hR⟩
  · exact (idxf_empty oa cap g lb w).mono fun e w' h => ⟨h.1, by rw [← h.2]; exact Below.refl _ _⟩
  · have h := AnyQ.slices_IndexFunc Tryz.laysg71 2 isAggA sizeA encA (fun _ => rfl) (fun x => decide (x.1 = nm)) g lb eg b off l.length cap l w hp (Nat.le_refl _) (by omega) hb (row_cells hR)
    rw [fint_idx] at h
    exact h

theorem any_isSome (nm : List UInt8) (l : List Attr) : l.any (fun x => decide (x.1 = nm)) = (fval nm l).isSome := by
  induction l with
  | nil => rfl
  | cons a r ih =>
    rw [List.any_cons, fval, ih]
    by_cases h : a.1 = nm
    · rw [if_pos h, decide_eq_true h]; rfl
    · rw [if_neg h, decide_eq_false h]; rfl
/-- the empty list's -/
theorem contf_empty (oa : Option Addr) (cap : Nat) (g : Nat) (lb : Array Value) (w : World) :
    Calls Tryz.prog 62 #[.slice oa 0 cap, .func (.func g) #[] lb] w fun e w' => e = .returned (.bool false) ∧ w = w' := by
  have h := fun w => idxf_empty oa cap g lb w
  go_enter Tryz.func62, Tryz.ntmps62
  go_wp2_with fail
  refine (h _).mono ?_
  rintro e w' ⟨rfl, rfl⟩
  go_wp2_with fail
  go_ret
  exact ⟨rfl, rfl⟩
theorem contf_any (g : Nat) (lb : Array Value) (eg : ∀ args w, (callFunc g args).run Tryz.prog w = .ok (.enter g args) w) (nm : List UInt8) (v : Value) (l : List Attr) (hl : l.length ≤ 140737488355328) (w : World) (hA : AttrsAt w v l)
    (hp : PredBelow Tryz.prog g lb (fun x => .agg (encA x).toArray) (fun x => decide (x.1 = nm)) w) :
    Calls Tryz.prog 62 #[v, .func (.func g) #[] lb] w fun e w' => e = .returned (.bool (fval nm l).isSome) ∧ Below w.heap.size w w' := by
  rcases hA with ⟨rfl, oa, cap, rfl⟩ | ⟨b, off, cap, rfl, h0, hb, hR⟩
  · exact (contf_empty oa cap g lb w).mono fun e w' h => ⟨h.1, by rw [← h.2]; exact Below.refl _ _⟩
  · have h := AnyQ.slices_ContainsFunc Tryz.laysg62 2 isAggA sizeA encA (fun _ => rfl) (fun x => decide (x.1 = nm)) g lb eg b off l.length cap l w hp (Nat.le_refl _) (by omega) hb (row_cells hR)
    rw [List.take_length, any_isSome] at h
    exact h

theorem pred_has (nm : List UInt8) (B : Nat) (w : World) (hB : B < w.heap.size) (hcell : w.cell? ⟨B, 0, none⟩ = some (.string ⟨nm.toArray⟩)) :
    PredBelow Tryz.prog 63 #[.pointer (some ⟨B, 0, none⟩)] (fun x => .agg (encA x).toArray) (fun x => decide (x.1 = nm)) w := fun W x hb => by
  have hc : W.cell? ⟨B, 0, none⟩ = some (.string ⟨nm.toArray⟩) := (hb.cell (p := ⟨B, 0, none⟩) hB).trans hcell
  have hBW : B < W.heap.size := Nat.lt_of_lt_of_le hB hb.size
  have hne : B ≠ W.heap.size := by omega
  obtain ⟨a, b⟩ := x
  show Calls Tryz.prog 63 #[.agg #[.string ⟨a.toArray⟩, .string ⟨b.toArray⟩], .pointer (some ⟨B, 0, none⟩)] W _
  have he := lst_eq a nm
  have HE := Lib.hid he
  clear he
  go_enter Tryz.func63, Tryz.ntmps63
  go_wp2_with fail
  go_ret
  exact ⟨by first | rfl | (rw [← HE.out]; rfl), hb.alloc hb.size _⟩

theorem pred_kattr (nm : List UInt8) (B : Nat) (w : World) (hB : B < w.heap.size) (hcell : w.cell? ⟨B, 0, none⟩ = some (.string ⟨nm.toArray⟩)) :
    PredBelow Tryz.prog 100 #[.pointer (some ⟨B, 0, none⟩)] (fun x => .agg (encA x).toArray) (fun x => decide (x.1 = nm)) w := fun W x hb => by
  have hc : W.cell? ⟨B, 0, none⟩ = some (.string ⟨nm.toArray⟩) := (hb.cell (p := ⟨B, 0, none⟩) hB).trans hcell
  have hBW : B < W.heap.size := Nat.lt_of_lt_of_le hB hb.size
  have hne : B ≠ W.heap.size := by omega
  obtain ⟨a, b⟩ := x
  show Calls Tryz.prog 100 #[.agg #[.string ⟨a.toArray⟩, .string ⟨b.toArray⟩], .pointer (some ⟨B, 0, none⟩)] W _
  have he := lst_eq a nm
  have HE := Lib.hid he
  clear he
  go_enter Tryz.func100, Tryz.ntmps100
  go_wp2_with fail
  go_ret
  exact ⟨by first | rfl | (rw [← HE.out]; rfl), hb.alloc hb.size _⟩

theorem pred_tfind (nm : List UInt8) (B : Nat) (w : World) (hB : B < w.heap.size) (hcell : w.cell? ⟨B, 0, none⟩ = some (.string ⟨nm.toArray⟩)) :
    PredBelow Tryz.prog 101 #[.pointer (some ⟨B, 0, none⟩)] (fun x => .agg (encA x).toArray) (fun x => decide (x.1 = nm)) w := fun W x hb => by
  have hc : W.cell? ⟨B, 0, none⟩ = some (.string ⟨nm.toArray⟩) := (hb.cell (p := ⟨B, 0, none⟩) hB).trans hcell
  have hBW : B < W.heap.size := Nat.lt_of_lt_of_le hB hb.size
  have hne : B ≠ W.heap.size := by omega
  obtain ⟨a, b⟩ := x
  show Calls Tryz.prog 101 #[.agg #[.string ⟨a.toArray⟩, .string ⟨b.toArray⟩], .pointer (some ⟨B, 0, none⟩)] W _
  have he := lst_eq a nm
  have HE := Lib.hid he
  clear he
  go_enter Tryz.func101, Tryz.ntmps101
  go_wp2_with fail
  go_ret
  exact ⟨by first | rfl | (rw [← HE.out]; rfl), hb.alloc hb.size _⟩

theorem pred_value (w : World) :
    PredBelow Tryz.prog 72 #[] (fun x => .agg (encA x).toArray) (fun x => decide (x.1 = nValue)) w := fun W x hb => by
  obtain ⟨a, b⟩ := x
  show Calls Tryz.prog 72 #[.agg #[.string ⟨a.toArray⟩, .string ⟨b.toArray⟩]] W _
  have he := lst_eq a nValue
  have HE := Lib.hid he
  clear he
  go_enter Tryz.func72, Tryz.ntmps72
  go_wp2_with fail
  go_ret
  exact ⟨by first | rfl | (rw [← HE.out]; rfl), hb.alloc hb.size _⟩

theorem pred_size (w : World) :
    PredBelow Tryz.prog 75 #[] (fun x => .agg (encA x).toArray) (fun x => decide (x.1 = nSize)) w := fun W x hb => by
  obtain ⟨a, b⟩ := x
  show Calls Tryz.prog 75 #[.agg #[.string ⟨a.toArray⟩, .string ⟨b.toArray⟩]] W _
  have he := lst_eq a nSize
  have HE := Lib.hid he
  clear he
  go_enter Tryz.func75, Tryz.ntmps75
  go_wp2_with fail
  go_ret
  exact ⟨by first | rfl | (rw [← HE.out]; rfl), hb.alloc hb.size _⟩

end Go.Proofs.YtoajgfhcongocaaGreatDoor.doc

namespace Go.Proofs.YtoajgfhcongocaaGreatDoor.doc
open Go.ChangeShapes Go.WideShapes Go.ChangeAt Go.RowKit Go.Lib Go.Proofs.YtoajgfhcongocaaGreatDoor.atr

theorem small_ok (c : UInt8) (h : smallC c = true) : okC c = true := by unfold okC; rw [h]; rfl
theorem named_cons (c : UInt8) (r : List UInt8) : namedP (c :: r) = (decide ((c :: r).length ≤ 20) && smallC c && (c :: r).all okC) := by
  rw [namedP, List.all_cons, List.length_cons]
  cases h : smallC c
  · cases decide (r.length + 1 ≤ 20) <;> rfl
  · rw [small_ok c h]
    cases r.all okC <;> cases decide (r.length + 1 ≤ 20) <;> rfl
/-- the five places where a byte can be -/
inductive Sp (c : UInt8) : Bool → Bool → Prop
  | small : 97 ≤ (c.toNat : Int) → (c.toNat : Int) ≤ 122 → Sp c true true
  | digit : 48 ≤ (c.toNat : Int) → (c.toNat : Int) ≤ 57 → Sp c false true
  | minus : (c.toNat : Int) = 45 → Sp c false true
  | a : (c.toNat : Int) < 45 → Sp c false false
  | b : 45 < (c.toNat : Int) → (c.toNat : Int) < 48 → Sp c false false
  | d : 57 < (c.toNat : Int) → (c.toNat : Int) < 97 → Sp c false false
  | e : 122 < (c.toNat : Int) → Sp c false false
theorem sp_of (c : UInt8) : Sp c (smallC c) (okC c) := by
  have e45 : (c == 45) = decide (c.toNat = 45) := by
    rw [Bool.eq_iff_iff, beq_iff_eq, decide_eq_true_eq]
    exact ⟨fun h => by rw [h]; rfl, fun h => UInt8.toNat_inj.1 h⟩
  unfold okC
  rw [e45]
  unfold smallC digitC
  by_cases h1 : c.toNat < 45
  · rw [decide_eq_false (show ¬ 97 ≤ c.toNat by omega), decide_eq_false (show ¬ 48 ≤ c.toNat by omega), decide_eq_false (show ¬ c.toNat = 45 by omega)]
    exact .a (by omega)
  by_cases h2 : c.toNat = 45
  · rw [decide_eq_false (show ¬ 97 ≤ c.toNat by omega), decide_eq_true h2, Bool.or_true]
    exact .minus (by omega)
  rw [decide_eq_false h2, Bool.or_false]
  by_cases h3 : c.toNat < 48
  · rw [decide_eq_false (show ¬ 97 ≤ c.toNat by omega), decide_eq_false (show ¬ 48 ≤ c.toNat by omega)]
    exact .b (by omega) (by omega)
  by_cases h4 : c.toNat ≤ 57
  · rw [decide_eq_false (show ¬ 97 ≤ c.toNat by omega), decide_eq_true (show 48 ≤ c.toNat by omega), decide_eq_true h4]
    exact .digit (by omega) (by omega)
  by_cases h5 : c.toNat < 97
  · rw [decide_eq_false (show ¬ 97 ≤ c.toNat by omega), decide_eq_false h4, Bool.and_false, Bool.false_and, Bool.false_or]
    exact .d (by omega) (by omega)
  by_cases h6 : c.toNat ≤ 122
  · rw [decide_eq_true (show 97 ≤ c.toNat by omega), decide_eq_true h6]
    exact .small (by omega) (by omega)
  · rw [decide_eq_false h6, decide_eq_false h4, Bool.and_false, Bool.and_false]
    exact .e (by omega)
theorem all_step (p : UInt8 → Bool) (l : List UInt8) (k : Nat) (c : UInt8) (r : List UInt8) (h : l.drop k = c :: r) : (l.take (k + 1)).all p = ((l.take k).all p && p c) := by
  have hk : k < l.length := by
    apply Nat.lt_of_not_le; intro g
    rw [List.drop_eq_nil_of_le g] at h; cases h
  have e : l[k] = c := by
    have := List.drop_eq_getElem_cons hk
    rw [h] at this
    exact (List.cons.inj this).1.symm
  rw [List.take_succ_eq_append_getElem hk, e, List.all_append]; simp
theorem all_bad (p : UInt8 → Bool) (l : List UInt8) (k : Nat) (c : UInt8) (r : List UInt8) (h : l.drop k = c :: r) (g : p c = false) : l.all p = false := by
  rw [← List.take_append_drop k l, List.all_append, h, List.all_cons, g]; simp

set_option maxHeartbeats 1600000 in
set_option maxRecDepth 100000 in
theorem named_any (s : List UInt8) (hs : s.length ≤ 140737488355328) (w : World) :
    Calls Tryz.prog 83 #[.string ⟨s.toArray⟩] w fun e w' => e = .returned (.bool (namedP s)) ∧ w = w' := by
  cases s with
  | nil =>
    go_enter Tryz.func83, Tryz.ntmps83
    go_wp2_with fail
    go_ret
    exact ⟨rfl, rfl⟩
  | cons c r =>
    have hP := Lib.hid (named_cons c r)
    have hc0 : ∀ h', (⟨(c :: r).toArray⟩ : ByteArray)[0]'h' = c := fun _ => rfl
    have hlen : (c :: r).length = r.length + 1 := rfl
    by_cases h20 : (c :: r).length ≤ 20
    · obtain ⟨x, hx⟩ : ∃ x, x = smallC c := ⟨_, rfl⟩
      have hsp := sp_of c
      rw [← hx] at hsp hP
      have HX := Lib.hid hx
      clear hx
      generalize okC c = y at hsp
      cases x
      · have HR : Hid (namedP (c :: r) = false) := Lib.hid (by rw [hP.out, Bool.and_false, Bool.false_and])
        clear hP HX
        generalize namedP (c :: r) = res at *
        obtain rfl := HR.out
        cases hsp <;>
        · go_enter Tryz.func83, Tryz.ntmps83
          go_wp2_with fail
          go_ret
          exact ⟨rfl, rfl⟩
      · cases hsp with | small h1 h2 =>
        have HR : Hid (namedP (c :: r) = (c :: r).all okC) := Lib.hid (by rw [hP.out, decide_eq_true h20]; rfl)
        clear hP HX
        generalize namedP (c :: r) = res at *
        have h0 : (1:Int) ≤ ((c :: r).length : Int) := by rw [hlen]; omega
        have he : (c :: r).isEmpty = false := rfl
        have hne : ¬ (c :: r) = [] := by simp
        have h20' : ((c :: r).length : Int) ≤ 20 := by omega
        generalize c :: r = l at *
        clear hlen
        go_enter Tryz.func83, Tryz.ntmps83
        go_wp2_with fail
        clear hc0 h1 h2 he hne h20'
        go_loopw [24] (fun s24 wr => ∃ k : Nat, s24 = .int .i64 k ∧ k ≤ l.length ∧ Hid ((l.take k).all okC = true) ∧ w = wr) (fun s _ => (21 - RowKit.intOf s).toNat)
        case atStart => exact ⟨0, rfl, by omega, Lib.hid rfl, rfl⟩
        case round =>
          obtain ⟨k, rfl, hk, ha, rfl⟩ := hrel
          by_cases hlt : k < l.length
          · obtain ⟨d, rest, hd1, hd2, hidx⟩ := Go.Proofs.YtoajgfhcongocaaGreatDoor.link.byte_at l k hlt
            have HS := Lib.hid (all_step okC l k d rest hd1)
            have HB := Lib.hid (all_bad okC l k d rest hd1)
            have hsp := sp_of d
            generalize smallC d = x at hsp
            have hok := Lib.hid (show okC d = okC d from rfl)
            obtain ⟨y, hy⟩ : ∃ y, y = okC d := ⟨_, rfl⟩
            rw [← hy] at hsp
            have HY := Lib.hid hy
            clear hd1 hd2 hy hok
            cases y
            · have HF : Hid (res = false) := Lib.hid (by rw [HR.out]; exact HB.out HY.out.symm)
              cases hsp with
              | a h1 =>
                have e45 : ((d.toNat : Int) != 45) = true := by simp; omega
                go_wp2_with fail
                go_ret
                exact ⟨Go.Proofs.YtoajgfhcongocaaGreatDoor.link.ret_bool HF.out.symm, rfl⟩
              | b h1 h2 =>
                have e45 : ((d.toNat : Int) != 45) = true := by simp; omega
                go_wp2_with fail
                go_ret
                exact ⟨Go.Proofs.YtoajgfhcongocaaGreatDoor.link.ret_bool HF.out.symm, rfl⟩
              | d h1 h2 =>
                have e45 : ((d.toNat : Int) != 45) = true := by simp; omega
                go_wp2_with fail
                go_ret
                exact ⟨Go.Proofs.YtoajgfhcongocaaGreatDoor.link.ret_bool HF.out.symm, rfl⟩
              | e h1 =>
                have e45 : ((d.toNat : Int) != 45) = true := by simp; omega
                go_wp2_with fail
                go_ret
                exact ⟨Go.Proofs.YtoajgfhcongocaaGreatDoor.link.ret_bool HF.out.symm, rfl⟩
            · have HN : Hid ((l.take (k + 1)).all okC = true) := Lib.hid (by rw [HS.out, ha.out, ← HY.out]; rfl)
              cases hsp with
              | small h1 h2 =>
                go_wp2_with fail
                go_roundw
                case rel => exact ⟨k + 1, by go_num, by omega, HN, by first | rfl | trivial⟩
                case measure => simp [RowKit.intOf]; omega
              | digit h1 h2 =>
                go_wp2_with fail
                go_roundw
                case rel => exact ⟨k + 1, by go_num, by omega, HN, by first | rfl | trivial⟩
                case measure => simp [RowKit.intOf]; omega
              | minus h1 =>
                have e45 : ((d.toNat : Int) != 45) = false := by simp [h1]
                go_wp2_with fail
                go_roundw
                case rel => exact ⟨k + 1, by go_num, by omega, HN, by first | rfl | trivial⟩
                case measure => simp [RowKit.intOf]; omega
          · obtain rfl : k = l.length := by omega
            have HT : Hid (res = true) := Lib.hid (by rw [HR.out]; have := ha.out; rw [List.take_length] at this; exact this)
            go_wp2_with fail
            go_ret
            exact ⟨Go.Proofs.YtoajgfhcongocaaGreatDoor.link.ret_bool HT.out.symm, rfl⟩
    · have HR : Hid (namedP (c :: r) = false) := Lib.hid (by rw [hP.out, decide_eq_false h20, Bool.false_and, Bool.false_and])
      clear hP
      generalize namedP (c :: r) = res at *
      obtain rfl := HR.out
      go_enter Tryz.func83, Tryz.ntmps83
      go_wp2_with fail
      go_ret
      exact ⟨rfl, rfl⟩

theorem named_end (l : List UInt8) (ha : l.all okC = true) (hf : ∀ c r, l = c :: r → smallC c = true) : namedP l = (decide (0 < l.length) && decide (l.length ≤ 20)) := by
  cases l with
  | nil => rfl
  | cons c r => rw [named_cons, ha, hf c r rfl, decide_eq_true (show 0 < (c :: r).length from Nat.succ_pos _), Bool.and_true, Bool.and_true]; rfl
theorem named_bad (l : List UInt8) (k : Nat) (c : UInt8) (r : List UInt8) (h : l.drop k = c :: r) (g : okC c = false) : namedP l = false := by
  cases l with
  | nil => rfl
  | cons d s => rw [named_cons, all_bad okC _ k c r h g, Bool.and_false]
theorem named_bad0 (l : List UInt8) (c : UInt8) (r : List UInt8) (h : l.drop 0 = c :: r) (g : smallC c = false) : namedP l = false := by
  rw [List.drop_zero] at h
  rw [h, namedP, g]; rfl
set_option maxHeartbeats 3200000 in
set_option maxRecDepth 100000 in
theorem rname_any (l : List UInt8) (hs : l.length ≤ 140737488355328) (w : World) :
    Calls Tryz.prog 82 #[.string ⟨l.toArray⟩] w fun e w' => e = .returned (.bool (namedP l)) ∧ w = w' := by
  have HE := Lib.hid (named_end l)
  obtain ⟨res, hres⟩ : ∃ r, r = namedP l := ⟨_, rfl⟩
  have HR := Lib.hid hres
  rw [← hres] at HE ⊢
  clear hres
  go_enter Tryz.func82, Tryz.ntmps82
  go_wp2_with fail
  go_loopw [3] (fun s3 wr => ∃ k : Nat, s3 = .int .i64 k ∧ k ≤ l.length ∧ Hid ((l.take k).all okC = true) ∧ Hid (0 < k → ∀ c r, l = c :: r → smallC c = true) ∧ w = wr) (fun s _ => (140737488355329 - RowKit.intOf s).toNat)
  case atStart => exact ⟨0, rfl, by omega, Lib.hid rfl, Lib.hid (fun h => absurd h (Nat.lt_irrefl _)), rfl⟩
  case round =>
    obtain ⟨k, rfl, hk, ha, hf, rfl⟩ := hrel
    by_cases hlt : k < l.length
    · obtain ⟨d, rest, hd1, hd2, hidx⟩ := Go.Proofs.YtoajgfhcongocaaGreatDoor.link.byte_at l k hlt
      have HS := Lib.hid (all_step okC l k d rest hd1)
      have HB := Lib.hid (named_bad l k d rest hd1)
      have HB0 : Hid (k = 0 → smallC d = false → namedP l = false) := Lib.hid (fun h g => by subst h; exact named_bad0 l d rest hd1 g)
      have HF0 : Hid (smallC d = true → ∀ c r, l = c :: r → (k = 0 → smallC c = true)) := Lib.hid (fun h c r e h0 => by
        subst h0
        rw [List.drop_zero, e] at hd1
        rw [(List.cons.inj hd1).1]; exact h)
      have hsp := sp_of d
      obtain ⟨x, hx⟩ : ∃ x, x = smallC d := ⟨_, rfl⟩
      obtain ⟨y, hy⟩ : ∃ y, y = okC d := ⟨_, rfl⟩
      rw [← hx, ← hy] at hsp
      have HX := Lib.hid hx
      have HY := Lib.hid hy
      clear hd1 hd2 hx hy
      go_upto_region 4 with fail
      go_cut [4] (fun s4 wx => s4 = .bool x ∧ wx = w)
      case first =>
        cases hsp with
        | a h1 =>
          have e45 : ((d.toNat : Int) == 45) = false := by simp; omega
          go_wp2_with fail
          go_meet
          exact ⟨by first | rfl | exact congrArg Value.bool (decide_eq_false (by omega)), rfl⟩
        | b h1 h2 =>
          have e45 : ((d.toNat : Int) == 45) = false := by simp; omega
          go_wp2_with fail
          go_meet
          exact ⟨by first | rfl | exact congrArg Value.bool (decide_eq_false (by omega)), rfl⟩
        | d h1 h2 =>
          have e45 : ((d.toNat : Int) == 45) = false := by simp; omega
          go_wp2_with fail
          go_meet
          exact ⟨by first | rfl | exact congrArg Value.bool (decide_eq_false (by omega)), rfl⟩
        | e h1 =>
          have e45 : ((d.toNat : Int) == 45) = false := by simp; omega
          go_wp2_with fail
          go_meet
          exact ⟨by first | rfl | exact congrArg Value.bool (decide_eq_false (by omega)), rfl⟩
        | small h1 h2 =>
          have e45 : ((d.toNat : Int) == 45) = false := by simp; omega
          go_wp2_with fail
          go_meet
          exact ⟨by first | rfl | exact congrArg Value.bool (decide_eq_false (by omega)), rfl⟩
        | digit h1 h2 =>
          have e45 : ((d.toNat : Int) == 45) = false := by simp; omega
          go_wp2_with fail
          go_meet
          exact ⟨by first | rfl | exact congrArg Value.bool (decide_eq_false (by omega)), rfl⟩
        | minus h1 =>
          have e45 : ((d.toNat : Int) == 45) = true := by simp [h1]
          go_wp2_with fail
          go_meet
          exact ⟨by first | rfl | exact congrArg Value.bool (decide_eq_false (by omega)), rfl⟩
      case rest =>
      obtain ⟨rfl, rfl⟩ := hcut
      go_upto_region 5 with fail
      go_cut [5] (fun s5 wx => ∃ z, s5 = .bool z ∧ (x = false → z = y) ∧ wx = wc)
      case first =>
        cases hsp with
        | a h1 =>
          have e45 : ((d.toNat : Int) == 45) = false := by simp; omega
          go_wp2_with fail
          go_meet
          exact ⟨_, rfl, fun _ => (by first | rfl | exact decide_eq_false (by omega)), rfl⟩
        | b h1 h2 =>
          have e45 : ((d.toNat : Int) == 45) = false := by simp; omega
          go_wp2_with fail
          go_meet
          exact ⟨_, rfl, fun _ => (by first | rfl | exact decide_eq_false (by omega)), rfl⟩
        | d h1 h2 =>
          have e45 : ((d.toNat : Int) == 45) = false := by simp; omega
          go_wp2_with fail
          go_meet
          exact ⟨_, rfl, fun _ => (by first | rfl | exact decide_eq_false (by omega)), rfl⟩
        | e h1 =>
          have e45 : ((d.toNat : Int) == 45) = false := by simp; omega
          go_wp2_with fail
          go_meet
          exact ⟨_, rfl, fun _ => (by first | rfl | exact decide_eq_false (by omega)), rfl⟩
        | small h1 h2 =>
          have e45 : ((d.toNat : Int) == 45) = false := by simp; omega
          go_wp2_with fail
          go_meet
          exact ⟨_, rfl, fun h => (by cases h), rfl⟩
        | digit h1 h2 =>
          have e45 : ((d.toNat : Int) == 45) = false := by simp; omega
          go_wp2_with fail
          go_meet
          exact ⟨_, rfl, fun _ => (by first | rfl | exact decide_eq_false (by omega)), rfl⟩
        | minus h1 =>
          have e45 : ((d.toNat : Int) == 45) = true := by simp [h1]
          go_wp2_with fail
          go_meet
          exact ⟨_, rfl, fun _ => (by first | rfl | exact decide_eq_false (by omega)), rfl⟩
      case rest =>
      obtain ⟨z, rfl, hz, rfl⟩ := hcut
      clear hsp
      cases x
      · obtain rfl : z = y := hz rfl
        clear hz
        cases k with
        | zero =>
          have HF : Hid (res = false) := Lib.hid (by rw [HR.out]; exact HB0.out rfl HX.out.symm)
          go_wp2_with fail
          go_ret
          exact ⟨Go.Proofs.YtoajgfhcongocaaGreatDoor.link.ret_bool HF.out.symm, rfl⟩
        | succ k =>
          have ek : (((k + 1 : Nat) : Int) == 0) = false := by simp; omega
          cases z
          · have HF : Hid (res = false) := Lib.hid (by rw [HR.out]; exact HB.out HY.out.symm)
            go_wp2_with fail
            go_ret
            exact ⟨Go.Proofs.YtoajgfhcongocaaGreatDoor.link.ret_bool HF.out.symm, rfl⟩
          · have HN : Hid ((l.take (k + 1 + 1)).all okC = true) := Lib.hid (by rw [HS.out, ha.out, ← HY.out]; rfl)
            go_wp2_with fail
            go_roundw
            case rel => exact ⟨k + 1 + 1, by go_num, by omega, HN, Lib.hid (fun _ => hf.out (Nat.succ_pos _)), by first | rfl | trivial⟩
            case measure => simp [RowKit.intOf]; omega
      · have HN : Hid ((l.take (k + 1)).all okC = true) := Lib.hid (by rw [HS.out, ha.out, small_ok d HX.out.symm]; rfl)
        clear hz
        go_wp2_with fail
        go_roundw
        case rel => exact ⟨k + 1, by go_num, by omega, HN, Lib.hid (fun _ c r e => by
          rcases Nat.eq_zero_or_pos k with g | g
          · exact HF0.out HX.out.symm c r e g
          · exact hf.out g c r e), by first | rfl | trivial⟩
        case measure => simp [RowKit.intOf]; omega
    · obtain rfl : k = l.length := by omega
      have HT : Hid (res = (decide (0 < l.length) && decide (l.length ≤ 20))) := Lib.hid (by
        refine HE.out (by have := ha.out; rw [List.take_length] at this; exact this) (fun c r e => hf.out (by rw [e]; exact Nat.succ_pos _) c r e))
      clear ha hf HE HR
      by_cases g0 : 0 < l.length
      · have g0' : (0 : Int) < (l.length : Int) := by omega
        by_cases g1 : l.length ≤ 20
        · go_wp2_with fail
          go_ret
          exact ⟨Go.Proofs.YtoajgfhcongocaaGreatDoor.link.ret_bool (by rw [HT.out, decide_eq_true g0, decide_eq_true g1]; exact decide_eq_true (by omega)), rfl⟩
        · go_wp2_with fail
          go_ret
          exact ⟨Go.Proofs.YtoajgfhcongocaaGreatDoor.link.ret_bool (by rw [HT.out, decide_eq_true g0, decide_eq_false g1]; exact decide_eq_false (by omega)), rfl⟩
      · go_wp2_with fail
        go_ret
        exact ⟨Go.Proofs.YtoajgfhcongocaaGreatDoor.link.ret_bool (by rw [HT.out, decide_eq_false g0]; rfl), rfl⟩
end Go.Proofs.YtoajgfhcongocaaGreatDoor.doc

namespace Go.Proofs.YtoajgfhcongocaaGreatDoor
open Go.RowKit

def Blk (w : World) (B : Nat) (cs : List Value) : Prop := ∃ T, w.heap[B]? = some (.cells cs.toArray T (0, 0))
theorem Blk.lt {w : World} {B : Nat} {cs : List Value} (h : Blk w B cs) : B < w.heap.size := by
  obtain ⟨T, h⟩ := h
  apply Nat.lt_of_not_le; intro g
  rw [Array.getElem?_eq_none g] at h; cases h
theorem Blk.cell {w : World} {B : Nat} {cs : List Value} (h : Blk w B cs) (k : Nat) : w.cell? ⟨B, k, none⟩ = cs[k]? := by
  obtain ⟨T, h⟩ := h
  simp [World.cell?, h]
theorem Blk.frozen {w : World} {B : Nat} {cs : List Value} (h : Blk w B cs) (k : Nat) : w.frozen? ⟨B, k, none⟩ = false := by
  obtain ⟨T, h⟩ := h
  simp [World.frozen?, h]
theorem Blk.set {w : World} {B : Nat} {cs : List Value} (h : Blk w B cs) (k : Nat) (v : Value) : Blk (w.setCell ⟨B, k, none⟩ v) B (cs.set k v) := by
  have hlt := h.lt
  obtain ⟨T, h⟩ := h
  have h' : w.heap[B] = .cells cs.toArray T (0, 0) := by simpa [Array.getElem?_eq_getElem hlt] using h
  refine ⟨T, ?_⟩
  show (w.heap.modify B _)[B]? = _
  rw [Array.getElem?_eq_getElem (by simpa using hlt), Array.getElem_modify_self, h']
  simp
theorem Blk.other {w : World} {B : Nat} {cs : List Value} (h : Blk w B cs) (a : Addr) (v : Value) (ha : a.block ≠ B) : Blk (w.setCell a v) B cs := by
  obtain ⟨T, h⟩ := h
  exact ⟨T, by rw [Below.heap_setCell w a v B (Ne.symm ha)]; exact h⟩
theorem Blk.alloc {w : World} {B : Nat} {cs : List Value} (h : Blk w B cs) (o : Obj) : Blk (w.alloc o) B cs := by
  have hlt := h.lt
  obtain ⟨T, h⟩ := h
  exact ⟨T, by rw [Below.heap_alloc w o B hlt]; exact h⟩
theorem Blk.drew {w : World} {B : Nat} {cs : List Value} (h : Blk w B cs) : Blk w.drew B cs := h
theorem Blk.fresh (w : World) (cs : List Value) (T : TypeId) : Blk (w.alloc (.cells cs.toArray T)) w.heap.size cs := by
  refine ⟨T, ?_⟩
  show (w.heap.push _)[w.heap.size]? = _
  simp
theorem Blk.below {w w' : World} {B : Nat} {cs : List Value} (h : Blk w B cs) {n : Nat} (hb : Below n w w') (hn : B < n) : Blk w' B cs := by
  obtain ⟨T, h⟩ := h
  exact ⟨T, by rw [hb.block _ hn]; exact h⟩
theorem Blk.kept {w w' : World} {B : Nat} {cs : List Value} (h : Blk w B cs) (hb : Below w.heap.size w w') : Blk w' B cs := h.below hb h.lt
/-- ten cells -/
theorem Blk.ten {w : World} {B : Nat} {a0 a1 a2 a3 a4 a5 a6 a7 a8 a9 : Value} (h : Blk w B [a0, a1, a2, a3, a4, a5, a6, a7, a8, a9]) :
    w.cell? ⟨B, 0, none⟩ = some a0 ∧ w.cell? ⟨B, 1, none⟩ = some a1 ∧ w.cell? ⟨B, 2, none⟩ = some a2 ∧ w.cell? ⟨B, 3, none⟩ = some a3 ∧ w.cell? ⟨B, 4, none⟩ = some a4 ∧ w.cell? ⟨B, 5, none⟩ = some a5 ∧ w.cell? ⟨B, 6, none⟩ = some a6 ∧ w.cell? ⟨B, 7, none⟩ = some a7 ∧ w.cell? ⟨B, 8, none⟩ = some a8 ∧ w.cell? ⟨B, 9, none⟩ = some a9 ∧
    w.frozen? ⟨B, 0, none⟩ = false ∧ w.frozen? ⟨B, 1, none⟩ = false ∧ w.frozen? ⟨B, 2, none⟩ = false ∧ w.frozen? ⟨B, 3, none⟩ = false ∧ w.frozen? ⟨B, 4, none⟩ = false ∧ w.frozen? ⟨B, 5, none⟩ = false ∧ w.frozen? ⟨B, 6, none⟩ = false ∧ w.frozen? ⟨B, 7, none⟩ = false ∧ w.frozen? ⟨B, 8, none⟩ = false ∧ w.frozen? ⟨B, 9, none⟩ = false :=
  ⟨h.cell 0, h.cell 1, h.cell 2, h.cell 3, h.cell 4, h.cell 5, h.cell 6, h.cell 7, h.cell 8, h.cell 9, h.frozen 0, h.frozen 1, h.frozen 2, h.frozen 3, h.frozen 4, h.frozen 5, h.frozen 6, h.frozen 7, h.frozen 8, h.frozen 9⟩
end Go.Proofs.YtoajgfhcongocaaGreatDoor

namespace Go.Proofs.YtoajgfhcongocaaGreatDoor.doc
open Go.ChangeShapes Go.WideShapes Go.ChangeAt Go.RowKit Go.Lib Go.Proofs.YtoajgfhcongocaaGreatDoor.atr

set_option maxHeartbeats 800000 in
theorem tfind_any (v : Value) (l : List Attr) (nm : List UInt8) (hl : l.length ≤ 140737488355328) (w : World) (hA : AttrsAt w v l) :
    Calls Tryz.prog 84 #[v, .string ⟨nm.toArray⟩] w fun e w' => e = .returned (.int .i64 (fint nm l)) ∧ Below w.heap.size w w' := by
  have eg : ∀ args w, (callFunc 101 args).run Tryz.prog w = .ok (.enter 101 args) w := enters_of Tryz.func101 (by kernel_rfl) rfl
  have hB1 : Below w.heap.size w (w.alloc (.cells #[.string ⟨nm.toArray⟩] 9)) := (Below.refl _ _).alloc (Nat.le_refl _) _
  have hI := idxfN_any 101 #[.pointer (some ⟨w.heap.size, 0, none⟩)] eg nm v l hl (w.alloc (.cells #[.string ⟨nm.toArray⟩] 9)) (hA.below hB1)
    (pred_tfind nm w.heap.size _ (by simp) (by simp))
  generalize fint nm l = r at *
  clear hA
  go_enter Tryz.func84, Tryz.ntmps84
  go_wp2_with fail
  refine hI.mono ?_
  rintro e w' ⟨rfl, hb'⟩
  clear hI
  go_wp2_with fail
  go_ret
  exact ⟨rfl, below_trans hB1 hb'⟩

/-! ### plain -/
theorem fidx_le (a : List Attr) (i : Nat) (h : i < a.length) : fidx (a[i]).1 a ≤ i := by
  rcases find_ways (a[i]).1 a with ⟨k, hk, h1, h2, h3, _⟩ | ⟨_, h2, _⟩
  · rw [h1]
    apply Nat.le_of_not_lt; intro g
    exact h3 i g rfl
  · exact absurd rfl (h2 i h)
theorem fint_take (a : List Attr) (i : Nat) (h : i < a.length) : (0 ≤ fint (a[i]).1 (a.take i)) ↔ fidx (a[i]).1 a ≠ i := by
  have hle := fidx_le a i h
  rcases find_ways (a[i]).1 a with ⟨k, hk, h1, h2, h3, _⟩ | ⟨_, h2, _⟩
  · rw [h1]
    rcases fint_ways (a[i]).1 (a.take i) with ⟨m, hm, g1, g2, g3, _⟩ | ⟨g1, g2, _⟩
    · rw [g1]
      have hm' : m < i := by simp at hm; omega
      have g2' : (a[m]'(by omega)).1 = (a[i]).1 := by rw [← g2]; simp
      constructor
      · intro _ e
        subst e
        exact h3 m hm' g2'
      · intro _; omega
    · rw [g1]
      constructor
      · intro h; omega
      · intro e
        have hki : k < i := by omega
        refine absurd h2 ?_
        have := g2 k (by simp; omega)
        simpa using this
  · exact absurd rfl (h2 i h)
theorem atA_at (a : List Attr) (i : Nat) (h : i < a.length) : atA a i = a[i] := by
  unfold atA
  rw [List.getD_eq_getElem?_getD, List.getElem?_eq_getElem h]; rfl
theorem attrsOk_of (a : List Attr) (h : ∀ i, i < a.length → attrB1 a i = true) : attrsOk a = true := by
  unfold attrsOk
  rw [List.all_eq_true]
  intro i hi
  exact h i (List.mem_range.1 hi)
theorem attrsOk_no (a : List Attr) (i : Nat) (hi : i < a.length) (h : attrB1 a i = false) : attrsOk a = false := by
  rw [← Bool.not_eq_true]
  intro g
  unfold attrsOk at g
  have := List.all_eq_true.1 g i (List.mem_range.2 hi)
  rw [h] at this; cases this
theorem attrB1_eq (a : List Attr) (i : Nat) (h : i < a.length) : attrB1 a i = (namedP (a[i]).1 && decide ((a[i]).2.length ≤ 4000) && decide (fint (a[i]).1 (a.take i) < 0)) := by
  unfold attrB1
  rw [atA_at a i h]
  congr 1
  rw [Bool.eq_iff_iff, beq_iff_eq, decide_eq_true_eq]
  have := fint_take a i h
  omega
theorem attrB1_eq' (a : List Attr) (i : Nat) (h : i < a.length) : attrB1 a i = (namedP (a[i]).1 && decide ((a[i]).2.length ≤ 4000) && (fint (a[i]).1 a == (i : Int))) := by
  unfold attrB1
  rw [atA_at a i h]
  congr 1
  rw [Bool.eq_iff_iff, beq_iff_eq, beq_iff_eq]
  unfold fint
  have := fidx_le a i h
  rw [if_pos (by omega)]
  omega
theorem alone_text (tx : List UInt8) (a : List Attr) (p : Int) (ks : List Int) : aloneP ⟨[], tx, a, p, ks⟩ = (((a.length : Int) == 0) && ((ks.length : Int) == 0) && decide ((tx.length : Int) ≤ 4000)) := by
  unfold aloneP
  rw [if_pos rfl]
  have e1 : a.isEmpty = ((a.length : Int) == 0) := by cases a <;> simp; omega
  have e2 : ks.isEmpty = ((ks.length : Int) == 0) := by cases ks <;> simp; omega
  rw [e1, e2]
  congr 1
  exact decide_eq_decide.2 (by dsimp only; omega)
theorem alone_elem (nm tx : List UInt8) (a : List Attr) (p : Int) (ks : List Int) (h : nm ≠ []) : aloneP ⟨nm, tx, a, p, ks⟩ = (namedP nm && ((tx.length : Int) == 0) && decide ((a.length : Int) ≤ 40) && attrsOk a) := by
  unfold aloneP
  rw [if_neg h]
  have e1 : tx.isEmpty = ((tx.length : Int) == 0) := by cases tx <;> simp; omega
  dsimp only
  rw [e1]
  congr 2
  exact decide_eq_decide.2 (by omega)
theorem AttrsAt.lenN {w : World} {v : Value} {l : List Attr} (h : AttrsAt w v l) : ∃ oa cap, v = .slice oa l.length cap := by
  rcases h with ⟨rfl, oa, cap, rfl⟩ | ⟨b, off, cap, rfl, _⟩
  · exact ⟨_, _, rfl⟩
  · exact ⟨_, _, rfl⟩
theorem AttrsAt.take {w : World} {b off : Nat} {l : List Attr} (hb : b < w.heap.size) (h : RowA w b off l) (i : Nat) (hi : i < l.length) (c : Nat) : AttrsAt w (.slice (some ⟨b, off, none⟩) i c) (l.take i) := by
  have hlen : (l.take i).length = i := by simp; omega
  rcases Nat.eq_zero_or_pos i with h0 | h0
  · subst h0; exact .inl ⟨rfl, _, _, rfl⟩
  · refine .inr ⟨b, off, c, by rw [hlen], by omega, hb, fun j hj => ?_⟩
    obtain ⟨h1, h2⟩ := h j (by omega)
    rw [List.getElem_take]
    exact ⟨h1, h2⟩

/-- three cells, and what was there at first -/
theorem h3_below {w0 w1 w2 : World} {p q r : Addr} {x y z : Value} (hp : p.block < w1.heap.size) (hq : q.block < w1.heap.size) (hr : r.block < w1.heap.size) (hb : Below w1.heap.size w1 w2) (h : w1.cell? p = some x ∧ w1.cell? q = some y ∧ w1.cell? r = some z ∧ Below w0.heap.size w0 w1) :
    w2.cell? p = some x ∧ w2.cell? q = some y ∧ w2.cell? r = some z ∧ Below w0.heap.size w0 w2 :=
  ⟨(hb.cell hp).trans h.1, (hb.cell hq).trans h.2.1, (hb.cell hr).trans h.2.2.1, below_trans h.2.2.2 hb⟩
theorem cellA_lt {w : World} {p : Addr} {v : Value} (h : w.cell? p = some v) : p.block < w.heap.size := by
  apply Nat.lt_of_not_le; intro g
  simp [World.cell?, Array.getElem?_eq_none g] at h
theorem h3_low {w0 w1 w2 : World} {p q r : Addr} {x y z : Value} (hb : Below w1.heap.size w1 w2) (h : w1.cell? p = some x ∧ w1.cell? q = some y ∧ w1.cell? r = some z ∧ Below w0.heap.size w0 w1) :
    w2.cell? p = some x ∧ w2.cell? q = some y ∧ w2.cell? r = some z ∧ Below w0.heap.size w0 w2 := h3_below (cellA_lt h.1) (cellA_lt h.2.1) (cellA_lt h.2.2.1) hb h
theorem h3_drew {w0 w1 : World} {p q r : Addr} {x y z : Value} (h : w1.cell? p = some x ∧ w1.cell? q = some y ∧ w1.cell? r = some z ∧ Below w0.heap.size w0 w1) :
    w1.drew.cell? p = some x ∧ w1.drew.cell? q = some y ∧ w1.drew.cell? r = some z ∧ Below w0.heap.size w0 w1.drew := ⟨h.1, h.2.1, h.2.2.1, h.2.2.2.drew⟩
set_option maxHeartbeats 3200000 in
set_option maxRecDepth 100000 in
theorem one_any (n : Nd) (va vk : Value) (hN : NFine n) (w : World) (hA : AttrsAt w va n.attrs) (hK : IntsAt w vk n.kids) (hC : CapOk va) :
    Calls Tryz.prog 70 #[nodeV n va vk] w fun e w' => e = .returned (.bool (aloneP n)) ∧ Below w.heap.size w w' := by
  obtain ⟨nm, tx, a, p, ks⟩ := n
  obtain ⟨n1, n2, n3, n4, n5, n6, n7⟩ := hN
  dsimp only at n1 n2 n3 n4 n5 n6 n7 hA hK
  obtain ⟨ka, kc, rfl⟩ := RowAt.lenN hK
  unfold nodeV
  dsimp only
  cases nm with
  | nil =>
    have HR := Lib.hid (alone_text tx a p ks)
    generalize aloneP ⟨[], tx, a, p, ks⟩ = res at *
    obtain ⟨aa, ac, rfl⟩ := AttrsAt.lenN hA
    clear hA hK n6 n7 n5 hC
    go_enter Tryz.func70, Tryz.ntmps70
    by_cases g1 : ((a.length : Int) == 0) = true
    · by_cases g2 : ((ks.length : Int) == 0) = true
      · go_wp2_with fail
        go_ret
        exact ⟨Go.Proofs.YtoajgfhcongocaaGreatDoor.link.ret_bool (by rw [HR.out, g1, g2]; rfl), (Below.refl _ _).alloc (Nat.le_refl _) _⟩
      · have g2 : ((ks.length : Int) == 0) = false := by simpa using g2
        go_wp2_with fail
        go_ret
        exact ⟨Go.Proofs.YtoajgfhcongocaaGreatDoor.link.ret_bool (by rw [HR.out, g1, g2]; rfl), (Below.refl _ _).alloc (Nat.le_refl _) _⟩
    · have g1 : ((a.length : Int) == 0) = false := by simpa using g1
      go_wp2_with fail
      go_ret
      exact ⟨Go.Proofs.YtoajgfhcongocaaGreatDoor.link.ret_bool (by rw [HR.out, g1]; rfl), (Below.refl _ _).alloc (Nat.le_refl _) _⟩
  | cons c0 cr =>
    have HR := Lib.hid (alone_elem (c0 :: cr) tx a p ks (by simp))
    generalize aloneP ⟨c0 :: cr, tx, a, p, ks⟩ = res at *
    have hnm := fun w => named_any (c0 :: cr) n1 w
    obtain ⟨q1, hq1⟩ : ∃ q, q = namedP (c0 :: cr) := ⟨_, rfl⟩
    rw [← hq1] at hnm HR
    clear hq1
    have hB1 : Below w.heap.size w (w.alloc (.cells #[.string ⟨(c0 :: cr).toArray⟩, .string ⟨tx.toArray⟩, va, .int .i64 p, .slice ka ks.length kc] 43)) := (Below.refl _ _).alloc (Nat.le_refl _) _
    obtain ⟨aa, ac, rfl⟩ := AttrsAt.lenN hA
    have hcap := hC aa a.length ac rfl
    clear hC
    have HB1 := Lib.hid hB1
    have hA1 := Lib.hid (hA.below hB1)
    clear hA hK hB1
    go_enter Tryz.func70, Tryz.ntmps70
    go_upto_region 3 with fail
    go_cut [38] (fun s38 wx => ∃ q, s38 = .bool q ∧ Hid (q = !(q1 && ((tx.length : Int) == 0) && decide ((a.length : Int) ≤ 40))) ∧ wx = w.alloc (.cells #[.string ⟨(c0 :: cr).toArray⟩, .string ⟨tx.toArray⟩, .slice aa a.length ac, .int .i64 p, .slice ka ks.length kc] 43))
    case first =>
      cases q1
      · go_wp2_with fail
        refine (hnm _).mono ?_
        rintro e w' ⟨rfl, rfl⟩
        go_wp2_with fail
        go_meet
        exact ⟨_, rfl, Lib.hid rfl, rfl⟩
      · cases tx with
        | cons x1 x2 =>
          go_wp2_with fail
          refine (hnm _).mono ?_
          rintro e w' ⟨rfl, rfl⟩
          go_wp2_with fail
          go_meet
          exact ⟨_, rfl, Lib.hid (by simp; omega), rfl⟩
        | nil =>
          go_wp2_with fail
          refine (hnm _).mono ?_
          rintro e w' ⟨rfl, rfl⟩
          go_wp2_with fail
          go_meet
          exact ⟨_, rfl, Lib.hid (by simp; rw [← decide_not]; exact decide_eq_decide.2 (by omega)), rfl⟩
    case rest =>
    obtain ⟨q, rfl, hq, rfl⟩ := hcut
    cases q
    case true =>
      have HX : Hid (res = false) := Lib.hid (by
        rw [HR.out]
        have := hq.out
        revert this
        generalize (q1 && ((tx.length : Int) == 0) && decide ((a.length : Int) ≤ 40)) = z
        intro h; cases z
        · rfl
        · cases h)
      go_wp2_with fail
      go_ret
      exact ⟨Go.Proofs.YtoajgfhcongocaaGreatDoor.link.ret_bool HX.out.symm, HB1.out⟩
    have HX : Hid (res = attrsOk a) := Lib.hid (by
      rw [HR.out]
      have := hq.out
      revert this
      generalize (q1 && ((tx.length : Int) == 0) && decide ((a.length : Int) ≤ 40)) = z
      intro h; cases z
      · cases h
      · rfl)
    clear hq HR hnm
    obtain ⟨w1, hw1⟩ : ∃ w1, w1 = w.alloc (.cells #[.string ⟨(c0 :: cr).toArray⟩, .string ⟨tx.toArray⟩, .slice aa a.length ac, .int .i64 p, .slice ka ks.length kc] 43) := ⟨_, rfl⟩
    have hK1 := Blk.fresh w [.string ⟨(c0 :: cr).toArray⟩, .string ⟨tx.toArray⟩, .slice aa a.length ac, .int .i64 p, .slice ka ks.length kc] 43
    have hK1 : Blk (w.alloc (.cells #[.string ⟨(c0 :: cr).toArray⟩, .string ⟨tx.toArray⟩, .slice aa a.length ac, .int .i64 p, .slice ka ks.length kc] 43)) w.heap.size [.string ⟨(c0 :: cr).toArray⟩, .string ⟨tx.toArray⟩, .slice aa a.length ac, .int .i64 p, .slice ka ks.length kc] := hK1
    rw [← hw1] at hK1 HB1 hA1 ⊢
    have hlt1 := hK1.lt
    have c2 : w1.cell? ⟨w.heap.size, 2, none⟩ = some (.slice aa a.length ac) := hK1.cell 2
    clear hw1 n2 n4 n7
    have HBW := Lib.hid (fun w' (h : Below w1.heap.size w1 w') => below_trans HB1.out h)
    obtain ⟨B, hB⟩ : ∃ B, B = w.heap.size := ⟨_, rfl⟩
    rw [← hB] at c2 hlt1 ⊢
    clear HB1
    clear hB hK1
    go_wp2_with fail
    go_loopw [42] (fun s42 wr => ∃ k : Nat, s42 = .int .i64 k ∧ k ≤ a.length ∧ Hid (∀ j, j < k → attrB1 a j = true) ∧ Below w1.heap.size w1 wr) (fun s _ => a.length - (RowKit.intOf s).toNat)
    case atStart => exact ⟨0, rfl, by omega, Lib.hid (fun j hj => absurd hj (Nat.not_lt_zero _)), Below.refl _ _⟩
    case round =>
      obtain ⟨k, rfl, hk, hg, hbw⟩ := hrel
      have c2r := cell_below hbw c2
      by_cases hlt : k < a.length
      · rcases hA1.out with ⟨e, _⟩ | ⟨b, off, cap, e, h0, hb, hR⟩
        · rw [e] at hlt; exact absurd hlt (Nat.not_lt_zero _)
        cases e
        obtain ⟨d1, d2⟩ := hR k hlt
        have d1 := cell_below hbw d1
        have d2 := cell_below hbw d2
        have HE := Lib.hid (attrB1_eq a k hlt)
        have HNo : Hid (attrB1 a k = false → res = false) := Lib.hid (fun h => by rw [HX.out]; exact attrsOk_no a k hlt h)
        have hsz := n5 a[k] (List.getElem_mem hlt)
        have hnk := fun w => named_any (a[k]).1 hsz.1 w
        have hfk := fun w h => tfind_any (.slice (some ⟨b, off, none⟩) k ac) (a.take k) (a[k]).1 (by simp; omega) w h
        have hT := Lib.hid (fun w' (h : Below w1.heap.size w1 w') => AttrsAt.take (Nat.lt_of_lt_of_le hb h.size) (fun j hj => ⟨(h.cell (p := ⟨b, off + j * 2, none⟩) hb).trans (hR j hj).1, (h.cell (p := ⟨b, off + j * 2 + 1, none⟩) hb).trans (hR j hj).2⟩) k hlt ac)
        have hble : B < wr.heap.size := Nat.lt_of_lt_of_le hlt1 hbw.size
        have hbne : b ≠ wr.heap.size := by have := hbw.size; omega
        obtain ⟨z, hz⟩ : ∃ z, z = attrB1 a k := ⟨_, rfl⟩
        rw [← hz] at HE HNo
        have HZD := Lib.hid hz
        clear hz
        generalize fint (a[k]).1 (a.take k) = fi at *
        generalize namedP (a[k]).1 = qn at *
        generalize (a[k]).1 = x at *
        generalize (a[k]).2 = y at *
        clear hR
        go_upto_region 8 with fail
        go_cut [66] (fun s66 wx => ∃ q, s66 = .bool q ∧ Hid (q = !z) ∧ Below w1.heap.size w1 wx)
        case first =>
          have hh : (wr.alloc (.cells #[.string ⟨x.toArray⟩, .string ⟨y.toArray⟩] 76)).cell? ⟨B, 2, none⟩ = some (.slice (some ⟨b, off, none⟩) a.length ac) ∧ (wr.alloc (.cells #[.string ⟨x.toArray⟩, .string ⟨y.toArray⟩] 76)).cell? ⟨wr.heap.size, 0, none⟩ = some (.string ⟨x.toArray⟩) ∧ (wr.alloc (.cells #[.string ⟨x.toArray⟩, .string ⟨y.toArray⟩] 76)).cell? ⟨wr.heap.size, 1, none⟩ = some (.string ⟨y.toArray⟩) ∧ Below w1.heap.size w1 (wr.alloc (.cells #[.string ⟨x.toArray⟩, .string ⟨y.toArray⟩] 76)) :=
            ⟨cell_below ((Below.refl _ _).alloc (Nat.le_refl _) _) c2r, by rw [World.cell?_alloc_new]; rfl, by rw [World.cell?_alloc_new]; rfl, hbw.alloc hbw.size _⟩
          clear c2r d1 d2 hbw hA1 c2
          have gE : decide (y.length ≤ 4000) = decide ((y.length : Int) ≤ 4000) := decide_eq_decide.2 (by omega)
          have gF : decide (fi < 0) = !decide (0 ≤ fi) := by rw [← decide_not]; exact decide_eq_decide.2 (by omega)
          have HE2 : Hid (z = (qn && decide ((y.length : Int) ≤ 4000) && !decide (0 ≤ fi))) := Lib.hid (by rw [← gE, ← gF]; exact HE.out)
          clear gE gF HE
          have hnq : ∀ w, Calls Tryz.prog 83 #[.string ⟨x.toArray⟩] w fun e w' => e = .returned (.bool qn) ∧ w' = w := fun w => (hnk w).mono fun _ _ h => ⟨h.1, h.2.symm⟩
          cases qn
          · have c0 := hh.1
            have c1 := hh.2.1
            have c3 := hh.2.2.1
            have lowh := Lib.hid hh.2.2.2
            clear hh hnk hfk
            go_quiet (first | (go_at_call 83; refine Calls.quiet_of_same (hnq _)))
            go_wp2_with fail
            go_meet
            exact ⟨_, rfl, Lib.hid (by rw [HE2.out]; rfl), by first | exact below_drewN lowh.out _ | exact lowh.out⟩
          by_cases gy : (y.length : Int) ≤ 4000
          · have gy2 : decide (4000 < (y.length : Int)) = false := decide_eq_false (by omega)
            have hkc : (k : Int) ≤ (ac : Int) := by omega
            clear hnq
            go_region_held3 (fun w' => w'.cell? ⟨B, 2, none⟩ = some (.slice (some ⟨b, off, none⟩) a.length ac) ∧ w'.cell? ⟨wr.heap.size, 0, none⟩ = some (.string ⟨x.toArray⟩) ∧ w'.cell? ⟨wr.heap.size, 1, none⟩ = some (.string ⟨y.toArray⟩) ∧ Below w1.heap.size w1 w')
              (first | assumption | exact h3_drew hh | exact h3_low (by assumption) (h3_drew hh) | exact h3_low (by assumption) hh)
              (first | (go_at_call 83; refine (hnk _).mono ?_; rintro e w6 ⟨rfl, rfl⟩) | (go_at_call 84; refine (hfk _ (hT.out _ (And.right (And.right (And.right (by assumption)))))).mono ?_; rintro e w7 ⟨rfl, hb7⟩))
            all_goals
              go_wp2_with fail
              go_meet
              exact ⟨_, rfl, Lib.hid (by rw [HE2.out, decide_eq_true gy]; simp), And.right (And.right (And.right (by assumption)))⟩
          · have gy2 : decide (4000 < (y.length : Int)) = true := decide_eq_true (by omega)
            have c0 := hh.1
            have c1 := hh.2.1
            have c3 := hh.2.2.1
            have lowh := Lib.hid hh.2.2.2
            clear hh hnk hfk
            go_quiet (first | (go_at_call 83; refine Calls.quiet_of_same (hnq _)))
            go_wp2_with fail
            go_meet
            exact ⟨_, rfl, Lib.hid (by rw [HE2.out, decide_eq_false (by omega : ¬ (y.length : Int) ≤ 4000)]; rfl), by first | exact below_drewN lowh.out _ | exact lowh.out⟩
        case rest =>
        obtain ⟨q, rfl, hq, hbc⟩ := hcut
        cases q
        · have HZ : Hid (z = true) := Lib.hid (by have := hq.out; cases z; cases this; rfl)
          go_wp2_with fail
          go_roundw
          case rel => exact ⟨k + 1, by go_num, by omega, Lib.hid (fun j hj => by
            rcases Nat.lt_or_ge j k with g | g
            · exact hg.out j g
            · have : j = k := by omega
              subst this; exact HZD.out ▸ HZ.out), hbc⟩
          case measure => simp [RowKit.intOf]; omega
        · have HZ : Hid (res = false) := Lib.hid (HNo.out (by have := hq.out; cases z; rfl; cases this))
          go_wp2_with fail
          go_ret
          exact ⟨Go.Proofs.YtoajgfhcongocaaGreatDoor.link.ret_bool HZ.out.symm, HBW.out _ hbc⟩
      · obtain rfl : k = a.length := by omega
        have HZ : Hid (res = true) := Lib.hid (by rw [HX.out]; exact attrsOk_of a hg.out)
        go_wp2_with fail
        go_ret
        exact ⟨Go.Proofs.YtoajgfhcongocaaGreatDoor.link.ret_bool HZ.out.symm, HBW.out _ hbw⟩
end Go.Proofs.YtoajgfhcongocaaGreatDoor.doc

namespace Go.Proofs.YtoajgfhcongocaaGreatDoor.doc
open Go.ChangeShapes Go.WideShapes Go.ChangeAt Go.RowKit Go.Lib Go.Proofs.YtoajgfhcongocaaGreatDoor.atr

set_option maxHeartbeats 3200000 in
set_option maxRecDepth 100000 in
theorem alone_any (n : Nd) (va vk : Value) (hN : NFine n) (w : World) (hA : AttrsAt w va n.attrs) (hK : IntsAt w vk n.kids) :
    Calls Tryz.prog 66 #[nodeV n va vk] w fun e w' => e = .returned (.bool (aloneP n)) ∧ Below w.heap.size w w' := by
  obtain ⟨nm, tx, a, p, ks⟩ := n
  obtain ⟨n1, n2, n3, n4, n5, n6, n7⟩ := hN
  dsimp only at n1 n2 n3 n4 n5 n6 n7 hA hK
  obtain ⟨ka, kc, rfl⟩ := RowAt.lenN hK
  unfold nodeV
  dsimp only
  cases nm with
  | nil =>
    have HR := Lib.hid (alone_text tx a p ks)
    generalize aloneP ⟨[], tx, a, p, ks⟩ = res at *
    obtain ⟨aa, ac, rfl⟩ := AttrsAt.lenN hA
    clear hA hK n6 n7 n5
    go_enter Tryz.func66, Tryz.ntmps66
    by_cases g1 : ((a.length : Int) == 0) = true
    · by_cases g2 : ((ks.length : Int) == 0) = true
      · go_wp2_with fail
        go_ret
        exact ⟨Go.Proofs.YtoajgfhcongocaaGreatDoor.link.ret_bool (by rw [HR.out, g1, g2]; rfl), (Below.refl _ _).alloc (Nat.le_refl _) _⟩
      · have g2 : ((ks.length : Int) == 0) = false := by simpa using g2
        go_wp2_with fail
        go_ret
        exact ⟨Go.Proofs.YtoajgfhcongocaaGreatDoor.link.ret_bool (by rw [HR.out, g1, g2]; rfl), (Below.refl _ _).alloc (Nat.le_refl _) _⟩
    · have g1 : ((a.length : Int) == 0) = false := by simpa using g1
      go_wp2_with fail
      go_ret
      exact ⟨Go.Proofs.YtoajgfhcongocaaGreatDoor.link.ret_bool (by rw [HR.out, g1]; rfl), (Below.refl _ _).alloc (Nat.le_refl _) _⟩
  | cons c0 cr =>
    have HR := Lib.hid (alone_elem (c0 :: cr) tx a p ks (by simp))
    generalize aloneP ⟨c0 :: cr, tx, a, p, ks⟩ = res at *
    have hnm := fun w => rname_any (c0 :: cr) n1 w
    obtain ⟨q1, hq1⟩ : ∃ q, q = namedP (c0 :: cr) := ⟨_, rfl⟩
    rw [← hq1] at hnm HR
    clear hq1
    have hB1 : Below w.heap.size w (w.alloc (.cells #[.string ⟨(c0 :: cr).toArray⟩, .string ⟨tx.toArray⟩, va, .int .i64 p, .slice ka ks.length kc] 43)) := (Below.refl _ _).alloc (Nat.le_refl _) _
    obtain ⟨aa, ac, rfl⟩ := AttrsAt.lenN hA
    have HB1 := Lib.hid hB1
    have hA1 := Lib.hid (hA.below hB1)
    clear hA hK hB1
    go_enter Tryz.func66, Tryz.ntmps66
    go_upto_region 3 with fail
    go_cut [39] (fun s39 wx => ∃ q, s39 = .bool q ∧ Hid (q = !(q1 && ((tx.length : Int) == 0) && decide ((a.length : Int) ≤ 40))) ∧ wx = w.alloc (.cells #[.string ⟨(c0 :: cr).toArray⟩, .string ⟨tx.toArray⟩, .slice aa a.length ac, .int .i64 p, .slice ka ks.length kc] 43))
    case first =>
      cases q1
      · go_wp2_with fail
        refine (hnm _).mono ?_
        rintro e w' ⟨rfl, rfl⟩
        go_wp2_with fail
        go_meet
        exact ⟨_, rfl, Lib.hid rfl, rfl⟩
      · cases tx with
        | cons x1 x2 =>
          go_wp2_with fail
          refine (hnm _).mono ?_
          rintro e w' ⟨rfl, rfl⟩
          go_wp2_with fail
          go_meet
          exact ⟨_, rfl, Lib.hid (by simp; omega), rfl⟩
        | nil =>
          go_wp2_with fail
          refine (hnm _).mono ?_
          rintro e w' ⟨rfl, rfl⟩
          go_wp2_with fail
          go_meet
          exact ⟨_, rfl, Lib.hid (by simp; rw [← decide_not]; exact decide_eq_decide.2 (by omega)), rfl⟩
    case rest =>
    obtain ⟨q, rfl, hq, rfl⟩ := hcut
    cases q
    case true =>
      have HX : Hid (res = false) := Lib.hid (by
        rw [HR.out]
        have := hq.out
        revert this
        generalize (q1 && ((tx.length : Int) == 0) && decide ((a.length : Int) ≤ 40)) = z
        intro h; cases z
        · rfl
        · cases h)
      go_wp2_with fail
      go_ret
      exact ⟨Go.Proofs.YtoajgfhcongocaaGreatDoor.link.ret_bool HX.out.symm, HB1.out⟩
    have HX : Hid (res = attrsOk a) := Lib.hid (by
      rw [HR.out]
      have := hq.out
      revert this
      generalize (q1 && ((tx.length : Int) == 0) && decide ((a.length : Int) ≤ 40)) = z
      intro h; cases z
      · cases h
      · rfl)
    clear hq HR hnm
    obtain ⟨w1, hw1⟩ : ∃ w1, w1 = w.alloc (.cells #[.string ⟨(c0 :: cr).toArray⟩, .string ⟨tx.toArray⟩, .slice aa a.length ac, .int .i64 p, .slice ka ks.length kc] 43) := ⟨_, rfl⟩
    have hK1 := Blk.fresh w [.string ⟨(c0 :: cr).toArray⟩, .string ⟨tx.toArray⟩, .slice aa a.length ac, .int .i64 p, .slice ka ks.length kc] 43
    have hK1 : Blk (w.alloc (.cells #[.string ⟨(c0 :: cr).toArray⟩, .string ⟨tx.toArray⟩, .slice aa a.length ac, .int .i64 p, .slice ka ks.length kc] 43)) w.heap.size [.string ⟨(c0 :: cr).toArray⟩, .string ⟨tx.toArray⟩, .slice aa a.length ac, .int .i64 p, .slice ka ks.length kc] := hK1
    rw [← hw1] at hK1 HB1 hA1 ⊢
    have hlt1 := hK1.lt
    have c2 : w1.cell? ⟨w.heap.size, 2, none⟩ = some (.slice aa a.length ac) := hK1.cell 2
    clear hw1 n2 n4 n7
    have HBW := Lib.hid (fun w' (h : Below w1.heap.size w1 w') => below_trans HB1.out h)
    obtain ⟨B, hB⟩ : ∃ B, B = w.heap.size := ⟨_, rfl⟩
    rw [← hB] at c2 hlt1 ⊢
    clear HB1
    clear hB hK1
    go_wp2_with fail
    go_loopw [3] (fun s3 wr => ∃ k : Nat, s3 = .int .i64 k ∧ k ≤ a.length ∧ Hid (∀ j, j < k → attrB1 a j = true) ∧ Below w1.heap.size w1 wr) (fun s _ => a.length - (RowKit.intOf s).toNat)
    case atStart => exact ⟨0, rfl, by omega, Lib.hid (fun j hj => absurd hj (Nat.not_lt_zero _)), Below.refl _ _⟩
    case round =>
      obtain ⟨k, rfl, hk, hg, hbw⟩ := hrel
      have c2r := cell_below hbw c2
      by_cases hlt : k < a.length
      · rcases hA1.out with ⟨e, _⟩ | ⟨b, off, cap, e, h0, hb, hR⟩
        · rw [e] at hlt; exact absurd hlt (Nat.not_lt_zero _)
        cases e
        obtain ⟨d1, d2⟩ := hR k hlt
        have d1 := cell_below hbw d1
        have d2 := cell_below hbw d2
        have HE := Lib.hid (attrB1_eq' a k hlt)
        have HNo : Hid (attrB1 a k = false → res = false) := Lib.hid (fun h => by rw [HX.out]; exact attrsOk_no a k hlt h)
        have hsz := n5 a[k] (List.getElem_mem hlt)
        have hnq : ∀ w, Calls Tryz.prog 82 #[.string ⟨(a[k]).1.toArray⟩] w fun e w' => e = .returned (.bool (namedP (a[k]).1)) ∧ w' = w := fun w => (rname_any (a[k]).1 hsz.1 w).mono fun _ _ h => ⟨h.1, h.2.symm⟩
        have hfq : ∀ w, AttrsAt w (.slice (some ⟨b, off, none⟩) a.length ac) a → Calls Tryz.prog 51 #[.slice (some ⟨b, off, none⟩) a.length ac, .string ⟨(a[k]).1.toArray⟩] w fun e w' => e = .returned (.int .i64 (fint (a[k]).1 a)) ∧ w' = w := fun w h => (rfindN_any (.slice (some ⟨b, off, none⟩) a.length ac) a (a[k]).1 n3 w h).mono fun _ _ h => ⟨h.1, h.2.symm⟩
        have hT := Lib.hid (fun n => (hA1.out.below hbw).below (below_drewN (Below.refl wr.heap.size wr) n))
        have hble : B < wr.heap.size := Nat.lt_of_lt_of_le hlt1 hbw.size
        obtain ⟨z, hz⟩ : ∃ z, z = attrB1 a k := ⟨_, rfl⟩
        rw [← hz] at HE HNo
        have HZD := Lib.hid hz
        clear hz
        generalize fint (a[k]).1 a = fi at *
        generalize namedP (a[k]).1 = qn at *
        generalize (a[k]).1 = x at *
        generalize (a[k]).2 = y at *
        have gE : decide (y.length ≤ 4000) = decide ((y.length : Int) ≤ 4000) := decide_eq_decide.2 (by omega)
        have HE2 : Hid (z = (qn && decide ((y.length : Int) ≤ 4000) && (fi == (k : Int)))) := Lib.hid (by rw [← gE]; exact HE.out)
        clear hR gE HE
        have HBB := Lib.hid hbw
        clear hbw
        go_upto_region 8 with fail
        go_cut [77] (fun s77 wx => ∃ q, s77 = .bool q ∧ Hid (q = !z) ∧ Below w1.heap.size w1 wx)
        case first =>
          cases qn
          · clear hfq
            go_quiet (first | (go_at_call 82; refine Calls.quiet_of_same (hnq _)))
            go_wp2_with fail
            go_meet
            exact ⟨_, rfl, Lib.hid (by rw [HE2.out]; rfl), by first | exact below_drewN HBB.out _ | exact HBB.out⟩
          by_cases gy : (y.length : Int) ≤ 4000
          · have gy2 : decide (4000 < (y.length : Int)) = false := decide_eq_false (by omega)
            go_quiet (first | (go_at_call 82; refine Calls.quiet_of_same (hnq _)) | (go_at_call 51; refine Calls.quiet_of_same (hfq _ (hT.out _))))
            go_wp2_with fail
            go_meet
            exact ⟨_, rfl, Lib.hid (by rw [HE2.out, decide_eq_true gy, Bool.true_and, Bool.true_and]; rfl), by first | exact below_drewN HBB.out _ | exact HBB.out⟩
          · have gy2 : decide (4000 < (y.length : Int)) = true := decide_eq_true (by omega)
            clear hfq
            go_quiet (first | (go_at_call 82; refine Calls.quiet_of_same (hnq _)))
            go_wp2_with fail
            go_meet
            exact ⟨_, rfl, Lib.hid (by rw [HE2.out, decide_eq_false (by omega : ¬ (y.length : Int) ≤ 4000)]; rfl), by first | exact below_drewN HBB.out _ | exact HBB.out⟩
        case rest =>
        obtain ⟨q, rfl, hq, hbc⟩ := hcut
        cases q
        · have HZ : Hid (z = true) := Lib.hid (by have := hq.out; cases z; cases this; rfl)
          go_wp2_with fail
          go_roundw
          case rel => exact ⟨k + 1, by go_num, by omega, Lib.hid (fun j hj => by
            rcases Nat.lt_or_ge j k with g | g
            · exact hg.out j g
            · have : j = k := by omega
              subst this; exact HZD.out ▸ HZ.out), hbc⟩
          case measure => simp [RowKit.intOf]; omega
        · have HZ : Hid (res = false) := Lib.hid (HNo.out (by have := hq.out; cases z; rfl; cases this))
          go_wp2_with fail
          go_ret
          exact ⟨Go.Proofs.YtoajgfhcongocaaGreatDoor.link.ret_bool HZ.out.symm, HBW.out _ hbc⟩
      · obtain rfl : k = a.length := by omega
        have HZ : Hid (res = true) := Lib.hid (by rw [HX.out]; exact attrsOk_of a hg.out)
        go_wp2_with fail
        go_ret
        exact ⟨Go.Proofs.YtoajgfhcongocaaGreatDoor.link.ret_bool HZ.out.symm, HBW.out _ hbw⟩
end Go.Proofs.YtoajgfhcongocaaGreatDoor.doc
