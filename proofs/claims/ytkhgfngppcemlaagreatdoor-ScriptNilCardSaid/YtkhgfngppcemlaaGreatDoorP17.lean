/- A node and what is within it, in order: each once; by a list of those that are to be gone to: plain. The contracts of the reference's Text, and of tree.Text: in a right document. -/
import Derived.BigQuiet
import Derived.ChangeAlike
import Derived.Deep.CutBlock
import Derived.Deep.DeepCutAuto
import Derived.Deep.MidRow
import Derived.Deep.RegionHeld3
import Derived.Deep.SlicePairs
import Derived.Deep.Slices
import Derived.Laws.BytesArg
import Derived.Laws.IdiomStrings
import Derived.Laws.OwnMore
import Derived.Lib.Hide
import Derived.Lib.IndexBytes
import Derived.Lib.IndexMore
import Derived.Lib.ItoaMem
import Derived.Lib.ItoaNum
import Derived.Lib.Replace
import Derived.Lib.SlTrimSet
import Derived.Lib.Strings
import Derived.OpenShut
import Derived.ProofKit
import Derived.RegionTactic
import Derived.Shelf.SlicesQ.IndexFunc
import Derived.WalkKit
import Derived.WalkSmall
import Derived.WalkSpells
import Derived.WideKeyArgs
import Derived.Test.YtkhgfngppcemlaaGreatDoorRows
import Derived.Test.YtkhgfngppcemlaaGreatDoorShelf
import Derived.Test.YtkhgfngppcemlaaGreatDoorP0
import Derived.Test.YtkhgfngppcemlaaGreatDoorP1
import Derived.Test.YtkhgfngppcemlaaGreatDoorP3
import Derived.Test.YtkhgfngppcemlaaGreatDoorP6
import Derived.Test.YtkhgfngppcemlaaGreatDoorP7
import Derived.Test.YtkhgfngppcemlaaGreatDoorP8
import Derived.Test.YtkhgfngppcemlaaGreatDoorP9
import Derived.Test.YtkhgfngppcemlaaGreatDoorP10
import Derived.Test.YtkhgfngppcemlaaGreatDoorP11
import Derived.Test.YtkhgfngppcemlaaGreatDoorP12
import Derived.Test.YtkhgfngppcemlaaGreatDoorP13
import Derived.Test.YtkhgfngppcemlaaGreatDoorP14
import Derived.Test.YtkhgfngppcemlaaGreatDoorP15
import Derived.Test.YtkhgfngppcemlaaGreatDoorP16
namespace Go.Proofs.YtkhgfngppcemlaaGreatDoor.doc

theorem climb_add (l : List Nd) : ∀ (m n : Nat) (k : Int), climb l (m + n) k = climb l n (climb l m k) := by
  intro m
  induction m with
  | zero => intro n k; rw [Nat.zero_add]; rfl
  | succ m ih =>
    intro n k
    rw [show m + 1 + n = (m + n) + 1 from by omega, climb_step, climb_step]
    by_cases h : k < 0
    · rw [if_pos h, if_pos h, climb_neg l n k h]
    · rw [if_neg h, if_neg h, ih]
theorem ord_anc {l : List Nd} (h : Rt l) : ∀ k, inR l k → ∀ x ∈ ordP l k, climb l (dep l x - dep l k) x = k := by
  refine by_depth h (fun k => ∀ x ∈ ordP l k, climb l (dep l x - dep l k) x = k) ?_
  intro k hk ih x hx
  rw [ord_eq h k hk] at hx
  rcases List.mem_cons.1 hx with rfl | hx
  · rw [Nat.sub_self]; rfl
  · obtain ⟨c, hc, hx⟩ := List.mem_flatMap.1 hx
    obtain ⟨c1, c2⟩ := h.kid k c hk hc
    have hd := dep_kid h c c1
    rw [c2] at hd
    have hx2 := (ord_in h c c1 x hx).2
    have e := ih c hc x hx
    rw [show dep l x - dep l k = (dep l x - dep l c) + 1 from by omega, climb_add, e, climb_step, if_neg (by have := c1.1; omega), c2]; rfl
theorem ord_nodup {l : List Nd} (h : Rt l) : ∀ k, inR l k → (ordP l k).Nodup := by
  refine by_depth h (fun k => (ordP l k).Nodup) ?_
  intro k hk ih
  rw [ord_eq h k hk, List.nodup_cons]
  refine ⟨?_, flat_nodup _ _ (kids_nodup h k hk) ih ?_⟩
  · intro hx
    obtain ⟨c, hc, hx⟩ := List.mem_flatMap.1 hx
    obtain ⟨c1, c2⟩ := h.kid k c hk hc
    have hd := dep_kid h c c1
    rw [c2] at hd
    have := (ord_in h c c1 k hx).2
    omega
  · intro x hx y hy hxy z hz hw
    obtain ⟨x1, x2⟩ := h.kid k x hk hx
    obtain ⟨y1, y2⟩ := h.kid k y hk hy
    have dx := dep_kid h x x1
    have dy := dep_kid h y y1
    rw [x2] at dx
    rw [y2] at dy
    have e1 := ord_anc h x x1 z hz
    have e2 := ord_anc h y y1 z hw
    rw [show dep l y = dep l x from by omega] at e2
    exact hxy (e1.symm.trans e2)
theorem ord_le {l : List Nd} (h : Rt l) (k : Int) (hk : inR l k) : (ordP l k).length ≤ l.length :=
  seen_le l _ (ord_nodup h k hk) (fun x hx => (ord_in h k hk x hx).1)
theorem ord_pos {l : List Nd} (h : Rt l) (k : Int) (hk : inR l k) : 1 ≤ (ordP l k).length := by rw [ord_eq h k hk, List.length_cons]; omega
end Go.Proofs.YtkhgfngppcemlaaGreatDoor.doc
namespace Go.Proofs.YtkhgfngppcemlaaGreatDoor.doc
open Go.ChangeShapes Go.WideShapes Go.ChangeAt Go.RowKit Go.Lib Go.Proofs.YtkhgfngppcemlaaGreatDoor.atr Go.Proofs.YtkhgfngppcemlaaGreatDoor.link
/-- nodes of a document, in a world behind -/
theorem nodes_get {w : World} {b off : Nat} {l : List Nd} {cap n : Nat} (hA : NodesAt w (.slice (some ⟨b, off, none⟩) n cap) l) (k : Nat) (hk : k < l.length) : ∃ va vk, NodeAt w b (off + k * 5) (nd l (k : Int)) va vk := by
  obtain ⟨b', off', cap', e, _, h⟩ := NodesAt.at hA (by omega)
  cases e
  have := h (k : Int) (by omega) (by omega)
  rwa [Int.toNat_natCast] at this
theorem nodes_addr {w : World} {v : Value} {l : List Nd} (hA : NodesAt w v l) (h0 : 0 < l.length) : ∃ b off cap, v = .slice (some ⟨b, off, none⟩) l.length cap ∧ b < w.heap.size := by
  obtain ⟨b', off', cap', e, hb, _⟩ := NodesAt.at hA h0
  exact ⟨_, _, _, e, hb⟩

end Go.Proofs.YtkhgfngppcemlaaGreatDoor.doc
