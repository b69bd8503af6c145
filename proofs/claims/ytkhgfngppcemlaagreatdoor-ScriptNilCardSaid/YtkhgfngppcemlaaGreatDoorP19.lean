/- The contract of the reference's Copied of nodes. A store into a cell of a copied document's node; of an own row beside it. -/
import Derived.BigQuiet
import Derived.ChangeAlike
import Derived.Deep.AppendLies
import Derived.Deep.CutBlock
import Derived.Deep.DeepCutAuto
import Derived.Deep.MidRow
import Derived.Deep.RegionHeld
import Derived.Deep.RegionHeld3
import Derived.Deep.RegionLaw
import Derived.Deep.RegionLawGrows
import Derived.Deep.SlicePairs
import Derived.Deep.Slices
import Derived.Laws.BytesArg
import Derived.Laws.IdiomStrings
import Derived.Laws.OwnMore
import Derived.Lib.Hide
import Derived.Lib.IndexBytes
import Derived.Lib.IndexMore
import Derived.Lib.ItoaMem
import Derived.Lib.ItoaNum
import Derived.Lib.Replace
import Derived.Lib.SlTrimSet
import Derived.Lib.Strings
import Derived.OpenShut
import Derived.ProofKit
import Derived.RangeFuncBox
import Derived.RegionTactic
import Derived.Shelf.SlicesQ.IndexFunc
import Derived.WalkKit
import Derived.WalkSmall
import Derived.WalkSpells
import Derived.WideKeyArgs
import Derived.Test.YtkhgfngppcemlaaGreatDoorRows
import Derived.Test.YtkhgfngppcemlaaGreatDoorShelf
import Derived.Test.YtkhgfngppcemlaaGreatDoorP0
import Derived.Test.YtkhgfngppcemlaaGreatDoorP1
import Derived.Test.YtkhgfngppcemlaaGreatDoorP3
import Derived.Test.YtkhgfngppcemlaaGreatDoorP6
import Derived.Test.YtkhgfngppcemlaaGreatDoorP7
import Derived.Test.YtkhgfngppcemlaaGreatDoorP8
import Derived.Test.YtkhgfngppcemlaaGreatDoorP9
import Derived.Test.YtkhgfngppcemlaaGreatDoorP10
import Derived.Test.YtkhgfngppcemlaaGreatDoorP11
import Derived.Test.YtkhgfngppcemlaaGreatDoorP12
import Derived.Test.YtkhgfngppcemlaaGreatDoorP13
import Derived.Test.YtkhgfngppcemlaaGreatDoorP14
import Derived.Test.YtkhgfngppcemlaaGreatDoorP15
import Derived.Test.YtkhgfngppcemlaaGreatDoorP16
import Derived.Test.YtkhgfngppcemlaaGreatDoorP17
import Derived.Test.YtkhgfngppcemlaaGreatDoorP18
namespace Go.Proofs.YtkhgfngppcemlaaGreatDoor.doc
open Go.ChangeShapes Go.WideShapes Go.ChangeAt Go.RowKit Go.Lib Go.Proofs.YtkhgfngppcemlaaGreatDoor.atr Go.Proofs.YtkhgfngppcemlaaGreatDoor.link
theorem infoN : (Tryz.prog.info? 84).map (fun i => (i.zero, i.size, i.bytes)) = some (some (.agg #[.string ⟨#[]⟩, .string ⟨#[]⟩, .slice none 0 0, .int .i64 0, .slice none 0 0]), 5, 88) := by kernel_rfl

theorem grownBy_set (W : World) (b o : Nat) (v : Value) : W.grownBy (W.setCell ⟨b, o, none⟩ v) (some b) :=
  ⟨rfl, rfl, rfl, (KeepsWalks.setCell W _ v).size, fun k _ hk => Below.heap_setCell _ _ _ k (fun e => hk (by rw [e]))⟩
/-- a node's five cells -/
def encN (n : Nd) (p : Value × Value) : List Value := [.string ⟨n.name.toArray⟩, .string ⟨n.text.toArray⟩, p.1, .int .i64 n.parent, p.2]
/-- the copies so far: the row of nodes, and each node's own two rows -/
structure CpR (w : World) (B : Nat) (v : Value) (l : List Nd) (ps : List (Value × Value)) : Prop where
  len : ps.length = l.length
  row : w.ownsRow B 84 5 v l.length ((l.zip ps).flatMap (fun x => encN x.1 x.2))
  attrs : ∀ j (h : j < l.length) (h' : j < ps.length), w.ownsRow B 130 2 ps[j].1 l[j].attrs.length (l[j].attrs.flatMap encA)
  kids : ∀ j (h : j < l.length) (h' : j < ps.length), w.ownsRow B 3 1 ps[j].2 l[j].kids.length (intsV l[j].kids)

theorem ownsRow_lower {w : World} {b b' : Nat} {e : TypeId} {size : Nat} {v : Value} {n : Nat} {xs : List Value} (h : w.ownsRow b e size v n xs) (hb : b' ≤ b) : w.ownsRow b' e size v n xs := by
  refine ⟨h.1, ?_⟩
  rcases h.2 with h | ⟨g', cap', cur, e1, e2, e3⟩
  · exact .inl h
  · exact .inr ⟨g', cap', cur, e1, Nat.le_trans hb e2, e3⟩
/-- rows of different kinds lie in different blocks -/
theorem own_apart {w : World} {b e b' e' : Nat} {size size' : Nat} {v v' : Value} {n n' : Nat} {xs xs' : List Value} (h : w.ownsRow b e size v n xs) (h' : w.ownsRow b' e' size' v' n' xs') (he : e ≠ e') : v.ownBlock = none ∨ v.ownBlock ≠ v'.ownBlock := by
  rcases h.2 with ⟨rfl, _⟩ | ⟨g, cap, cur, rfl, _, hg, _⟩
  · exact .inl rfl
  · refine .inr fun e1 => ?_
    rcases h'.2 with ⟨rfl, _⟩ | ⟨g', cap', cur', rfl, _, hg', _⟩
    · simp [Value.ownBlock] at e1
    · obtain rfl : g = g' := by simpa [Value.ownBlock] using e1
      rw [hg] at hg'
      simp at hg'
      exact he hg'.2
theorem CpR.nil (w : World) (B : Nat) : CpR w B (.slice none 0 0) [] [] := ⟨rfl, World.ownsRow_nil _ _ _ _, fun j h => absurd h (by simp), fun j h => absurd h (by simp)⟩
theorem CpR.below {w w' : World} {B : Nat} {v : Value} {l : List Nd} {ps : List (Value × Value)} (h : CpR w B v l ps) (hb : Below w.heap.size w w') : CpR w' B v l ps :=
  ⟨h.len, ownsRow_below h.row hb, fun j a b => ownsRow_below (h.attrs j a b) hb, fun j a b => ownsRow_below (h.kids j a b) hb⟩
theorem CpR.snoc {w w9 : World} {B : Nat} {v v9 : Value} {l : List Nd} {ps : List (Value × Value)} (h : CpR w B v l ps) (n : Nd) (p : Value × Value) (o : Obj) (h2 : w.ownsRow B 130 2 p.1 n.attrs.length (n.attrs.flatMap encA)) (h4 : w.ownsRow B 3 1 p.2 n.kids.length (intsV n.kids))
    (hg : (w.alloc o).grownBy w9 v.ownBlock) (h9 : w9.ownsRow B 84 5 v9 (l.length + 1) ((l.zip ps).flatMap (fun x => encN x.1 x.2) ++ encN n p)) : CpR w9 B v9 (l ++ [n]) (ps ++ [p]) := by
  have hr := h.row.alloc o
  refine ⟨by rw [List.length_append, List.length_append, h.len]; rfl, ?_, ?_, ?_⟩
  · rw [List.zip_append h.len.symm, List.flatMap_append, List.length_append]
    simpa using h9
  · intro j hj hj'
    by_cases e : j < l.length
    · have e' : j < ps.length := by rw [h.len]; exact e
      have q := (h.attrs j e e').alloc o
      rw [List.getElem_append_left e, List.getElem_append_left e']
      exact q.kept hg (own_apart q hr (by decide))
    · obtain rfl : j = l.length := by simp at hj; omega
      have q := h2.alloc o
      have e1 : (l ++ [n])[l.length] = n := by simp
      have e2 : (ps ++ [p])[l.length]'hj' = p := by rw [List.getElem_append_right (by rw [h.len]; exact Nat.le_refl _)]; simp
      rw [e1, e2]
      exact q.kept hg (own_apart q hr (by decide))
  · intro j hj hj'
    by_cases e : j < l.length
    · have e' : j < ps.length := by rw [h.len]; exact e
      have q := (h.kids j e e').alloc o
      rw [List.getElem_append_left e, List.getElem_append_left e']
      exact q.kept hg (own_apart q hr (by decide))
    · obtain rfl : j = l.length := by simp at hj; omega
      have q := h4.alloc o
      have e1 : (l ++ [n])[l.length] = n := by simp
      have e2 : (ps ++ [p])[l.length]'hj' = p := by rw [List.getElem_append_right (by rw [h.len]; exact Nat.le_refl _)]; simp
      rw [e1, e2]
      exact q.kept hg (own_apart q hr (by decide))
theorem low_own {w wr w1 : World} {B e size n : Nat} {v : Value} {xs : List Value} (hrow : wr.ownsRow B e size v n xs) (hb : Below B w wr) (hbs : B ≤ wr.heap.size) (o : Obj) (hg : (wr.alloc o).grownBy w1 v.ownBlock) : Below B w w1 ∧ B ≤ w1.heap.size := by
  have h1 : B ≤ (wr.alloc o).heap.size := by simp; omega
  exact ⟨(hb.alloc hbs o).grown hg h1 (fun k e => (hrow.lt k e).1), Nat.le_trans h1 hg.size⟩
end Go.Proofs.YtkhgfngppcemlaaGreatDoor.doc
namespace Go.Proofs.YtkhgfngppcemlaaGreatDoor.doc
open Go.ChangeShapes Go.WideShapes Go.ChangeAt Go.RowKit Go.Lib Go.Proofs.YtkhgfngppcemlaaGreatDoor.atr Go.Proofs.YtkhgfngppcemlaaGreatDoor.link Go.Proofs.YtkhgfngppcemlaaGreatDoor.ctl

theorem encNS_len (x : Nd × (Value × Value)) : (encN x.1 x.2).length = 5 := rfl
theorem CpR.setX {w : World} {B g cap n : Nat} {l : List Nd} {ps : List (Value × Value)} (h : CpR w B (.slice (some ⟨g, 0, none⟩) n cap) l ps) (hn : n = l.length) (j : Nat) (hj : j < l.length) (hj' : j < ps.length) (f : Nat) (hf : f < 5) (u : Value) (n' : Nd) (p' : Value × Value)
    (he : (encN l[j] ps[j]).set f u = encN n' p') (ha : w.ownsRow B 130 2 p'.1 n'.attrs.length (n'.attrs.flatMap encA)) (hk : w.ownsRow B 3 1 p'.2 n'.kids.length (intsV n'.kids)) :
    CpR (w.setCell ⟨g, j * 5 + f, none⟩ u) B (.slice (some ⟨g, 0, none⟩) n cap) (l.set j n') (ps.set j p') := by
  subst hn
  obtain ⟨hs, hgr⟩ := World.ownsRow.stored (w := w) h.row (j * 5 + f) u
  have hz : j < (l.zip ps).length := by rw [List.length_zip, h.len, Nat.min_self]; exact hj
  have ez : (l.set j n').zip (ps.set j p') = (l.zip ps).set j (n', p') := by
    apply List.ext_getElem
    · simp
    · intro k h1 h2
      rw [List.getElem_zip, List.getElem_set, List.getElem_set, List.getElem_set]
      by_cases e : j = k
      · simp [e]
      · simp [e]
  refine ⟨by simp [h.len], ?_, ?_, ?_⟩
  · rw [ez, List.length_set, ← flat_set (fun x : Nd × (Value × Value) => encN x.1 x.2) 5 encNS_len (l.zip ps) j hz f hf u (n', p') (by rw [List.getElem_zip]; exact he)]
    exact hs
  · intro k hk1 hk2
    by_cases e : j = k
    · subst e
      simp only [List.getElem_set_self]
      exact ha.kept hgr (own_apart ha h.row (by decide))
    · simp only [List.getElem_set_ne e]
      have q := h.attrs k (by simpa using hk1) (by simpa using hk2)
      exact q.kept hgr (own_apart q h.row (by decide))
  · intro k hk1 hk2
    by_cases e : j = k
    · subst e
      simp only [List.getElem_set_self]
      exact hk.kept hgr (own_apart hk h.row (by decide))
    · simp only [List.getElem_set_ne e]
      have q := h.kids k (by simpa using hk1) (by simpa using hk2)
      exact q.kept hgr (own_apart q h.row (by decide))
theorem CpR.cellX {w : World} {B g cap n : Nat} {l : List Nd} {ps : List (Value × Value)} (h : CpR w B (.slice (some ⟨g, 0, none⟩) n cap) l ps) (hn : n = l.length) (j : Nat) (hj : j < l.length) (hj' : j < ps.length) (f : Nat) (hf : f < 5) : w.cell? ⟨g, j * 5 + f, none⟩ = (encN l[j] ps[j])[f]? := by
  subst hn
  have hz : j < (l.zip ps).length := by rw [List.length_zip, h.len, Nat.min_self]; exact hj
  rw [World.ownsRow.cellAt h.row (j * 5 + f) (by omega)]
  have := flat_at (fun x : Nd × (Value × Value) => encN x.1 x.2) 5 encNS_len (l.zip ps) j hz f hf
  rw [this, List.getElem_zip]
end Go.Proofs.YtkhgfngppcemlaaGreatDoor.doc
