/- Nodes and numbers in memory. -/
import Derived.Deep.SlicePairs
import Derived.Deep.Slices
import Derived.Laws.OwnMore
import Derived.Lib.Hide
import Derived.Lib.ItoaMem
import Derived.OpenShut
import Derived.ProofKit
import Derived.WalkKit
import Derived.WalkSmall
import Derived.WideKeyArgs
import Derived.Test.YtkhgfngppcemlaaGreatDoorRows
import Derived.Test.YtkhgfngppcemlaaGreatDoorP1
import Derived.Test.YtkhgfngppcemlaaGreatDoorP6
import Derived.Test.YtkhgfngppcemlaaGreatDoorP7
import Derived.Test.YtkhgfngppcemlaaGreatDoorP8
namespace Go.Proofs.YtkhgfngppcemlaaGreatDoor.doc
open Go.ChangeShapes Go.WideShapes Go.ChangeAt Go.RowKit Go.Lib Go.Proofs.YtkhgfngppcemlaaGreatDoor.atr

def encI (k : Int) : List Value := [.int .i64 k]
def IntsAt (w : World) (v : Value) (ks : List Int) : Prop := RowAt w v ks.length (ks.flatMap encI)
theorem encI_len (x : Int) : (encI x).length = 1 := rfl
theorem IntsAt.below {w w' : World} {v : Value} {ks : List Int} (h : IntsAt w v ks) (hb : Below w.heap.size w w') : IntsAt w' v ks := RowAt.below h hb (Nat.le_refl _)
theorem IntsAt.nil (w : World) : IntsAt w (.slice none 0 0) [] := .inl ⟨rfl, rfl, _, _, rfl⟩
theorem ints_get (ks : List Int) (j : Nat) (h : j < ks.length) : (ks.flatMap encI)[j]? = some (.int .i64 ks[j]) := by
  have := flat_at encI 1 encI_len ks j h 0 (by decide)
  simpa [encI] using this
/-- a node's value -/
def nodeV (n : Nd) (va vk : Value) : Value := .agg #[.string ⟨n.name.toArray⟩, .string ⟨n.text.toArray⟩, va, .int .i64 n.parent, vk]
/-- a slice's length is within its room -/
def CapOk (v : Value) : Prop := ∀ a n c, v = .slice a n c → n ≤ c
theorem CapOk.nil : CapOk (.slice none 0 0) := fun a n c e => by cases e; exact Nat.le_refl _
/-- its cells -/
structure NodeAt (w : World) (b o : Nat) (n : Nd) (va vk : Value) : Prop where
  c0 : w.cell? ⟨b, o, none⟩ = some (.string ⟨n.name.toArray⟩)
  c1 : w.cell? ⟨b, o + 1, none⟩ = some (.string ⟨n.text.toArray⟩)
  c2 : w.cell? ⟨b, o + 2, none⟩ = some va
  c3 : w.cell? ⟨b, o + 3, none⟩ = some (.int .i64 n.parent)
  c4 : w.cell? ⟨b, o + 4, none⟩ = some vk
  attrs : AttrsAt w va n.attrs
  kids : IntsAt w vk n.kids
  cap : CapOk va
theorem NodeAt.below {w w' : World} {b o : Nat} {n : Nd} {va vk : Value} (h : NodeAt w b o n va vk) (hb : Below w.heap.size w w') : NodeAt w' b o n va vk :=
  ⟨cell_below hb h.c0, cell_below hb h.c1, cell_below hb h.c2, cell_below hb h.c3, cell_below hb h.c4, h.attrs.below hb, h.kids.below hb, h.cap⟩
/-- the slice -/
def NodesAt (w : World) (v : Value) (l : List Nd) : Prop :=
  (l = [] ∧ ∃ oa cap, v = .slice oa 0 cap) ∨ ∃ b off cap, v = .slice (some ⟨b, off, none⟩) l.length cap ∧ 0 < l.length ∧ b < w.heap.size ∧ ∀ j (h : j < l.length), ∃ va vk, NodeAt w b (off + j * 5) l[j] va vk
theorem NodesAt.below {w w' : World} {v : Value} {l : List Nd} (h : NodesAt w v l) (hb : Below w.heap.size w w') : NodesAt w' v l := by
  rcases h with h | ⟨b, off, cap, h1, h0, h2, h3⟩
  · exact .inl h
  · exact .inr ⟨b, off, cap, h1, h0, Nat.lt_of_lt_of_le h2 hb.size, fun j hj => by
      obtain ⟨va, vk, h⟩ := h3 j hj
      exact ⟨va, vk, h.below hb⟩⟩
theorem NodesAt.lenN {w : World} {v : Value} {l : List Nd} (h : NodesAt w v l) : ∃ oa cap, v = .slice oa l.length cap := by
  rcases h with ⟨rfl, oa, cap, rfl⟩ | ⟨b, off, cap, rfl, _⟩
  · exact ⟨_, _, rfl⟩
  · exact ⟨_, _, rfl⟩
/-- a slice with a node in it has an address -/
theorem NodesAt.at {w : World} {v : Value} {l : List Nd} (h : NodesAt w v l) (h0 : 0 < l.length) : ∃ b off cap, v = .slice (some ⟨b, off, none⟩) l.length cap ∧ b < w.heap.size ∧ ∀ k, 0 ≤ k → k < (l.length : Int) → ∃ va vk, NodeAt w b (off + k.toNat * 5) (nd l k) va vk := by
  rcases h with ⟨rfl, _⟩ | ⟨b, off, cap, rfl, _, hb, hc⟩
  · exact absurd h0 (Nat.lt_irrefl _)
  · refine ⟨b, off, cap, rfl, hb, fun k k0 k1 => ?_⟩
    have hk : k.toNat < l.length := by omega
    obtain ⟨va, vk, h⟩ := hc k.toNat hk
    refine ⟨va, vk, ?_⟩
    have := nd_cast l k.toNat hk
    rw [show ((k.toNat : Nat) : Int) = k from by omega] at this
    rw [this]; exact h
structure NFine (n : Nd) : Prop where
  name : n.name.length ≤ 140737488355328
  text : n.text.length ≤ 140737488355328
  attrs : n.attrs.length ≤ 140737488355328
  kids : n.kids.length ≤ 17592186044416
  an : ∀ a ∈ n.attrs, a.1.length ≤ 140737488355328 ∧ a.2.length ≤ 140737488355328
  par : (Lit.int .i64 n.parent).wf = true
  kid : ∀ k ∈ n.kids, (Lit.int .i64 k).wf = true
structure LFine (l : List Nd) : Prop where
  len : l.length ≤ 17592186044416
  each : ∀ n ∈ l, NFine n
theorem LFine.nd {l : List Nd} (h : LFine l) (k : Int) (h0 : 0 ≤ k) (h1 : k < (l.length : Int)) : NFine (nd l k) := by
  have hk : k.toNat < l.length := by omega
  have := nd_cast l k.toNat hk
  rw [show ((k.toNat : Nat) : Int) = k from by omega] at this
  rw [this]
  exact h.each _ (List.getElem_mem hk)
theorem wf_range {x : Int} (h : (Lit.int .i64 x).wf = true) : -9223372036854775808 ≤ x ∧ x ≤ 9223372036854775807 := by
  have h : (decide (IntKind.i64.min ≤ x) && decide (x ≤ IntKind.i64.max)) = true := h
  rw [Bool.and_eq_true, decide_eq_true_eq, decide_eq_true_eq] at h
  exact h
end Go.Proofs.YtkhgfngppcemlaaGreatDoor.doc
