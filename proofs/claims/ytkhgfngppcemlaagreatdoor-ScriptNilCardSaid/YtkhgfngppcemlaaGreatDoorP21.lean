/- The copy is the document again. -/
import Derived.BigQuiet
import Derived.ChangeAlike
import Derived.Deep.AppendLies
import Derived.Deep.CutBlock
import Derived.Deep.DeepCutAuto
import Derived.Deep.MidRow
import Derived.Deep.RegionHeld
import Derived.Deep.RegionHeld3
import Derived.Deep.RegionLaw
import Derived.Deep.RegionLawGrows
import Derived.Deep.SlicePairs
import Derived.Deep.Slices
import Derived.Laws.BytesArg
import Derived.Laws.IdiomStrings
import Derived.Laws.OwnMore
import Derived.Lib.Hide
import Derived.Lib.IndexBytes
import Derived.Lib.IndexMore
import Derived.Lib.ItoaMem
import Derived.Lib.ItoaNum
import Derived.Lib.Replace
import Derived.Lib.SlTrimSet
import Derived.Lib.SliceRun
import Derived.Lib.Strings
import Derived.OpenShut
import Derived.ProofKit
import Derived.RangeFuncBox
import Derived.RegionTactic
import Derived.Shelf.SlicesQ.IndexFunc
import Derived.WalkKit
import Derived.WalkSmall
import Derived.WalkSpells
import Derived.WideKeyArgs
import Derived.Test.YtkhgfngppcemlaaGreatDoorRows
import Derived.Test.YtkhgfngppcemlaaGreatDoorShelf
import Derived.Test.YtkhgfngppcemlaaGreatDoorP0
import Derived.Test.YtkhgfngppcemlaaGreatDoorP1
import Derived.Test.YtkhgfngppcemlaaGreatDoorP3
import Derived.Test.YtkhgfngppcemlaaGreatDoorP6
import Derived.Test.YtkhgfngppcemlaaGreatDoorP7
import Derived.Test.YtkhgfngppcemlaaGreatDoorP8
import Derived.Test.YtkhgfngppcemlaaGreatDoorP9
import Derived.Test.YtkhgfngppcemlaaGreatDoorP10
import Derived.Test.YtkhgfngppcemlaaGreatDoorP11
import Derived.Test.YtkhgfngppcemlaaGreatDoorP12
import Derived.Test.YtkhgfngppcemlaaGreatDoorP13
import Derived.Test.YtkhgfngppcemlaaGreatDoorP14
import Derived.Test.YtkhgfngppcemlaaGreatDoorP15
import Derived.Test.YtkhgfngppcemlaaGreatDoorP16
import Derived.Test.YtkhgfngppcemlaaGreatDoorP17
import Derived.Test.YtkhgfngppcemlaaGreatDoorP18
import Derived.Test.YtkhgfngppcemlaaGreatDoorP19
import Derived.Test.YtkhgfngppcemlaaGreatDoorP20
namespace Go.Proofs.YtkhgfngppcemlaaGreatDoor.doc
open Go.ChangeShapes Go.WideShapes Go.ChangeAt Go.RowKit Go.Lib Go.Proofs.YtkhgfngppcemlaaGreatDoor.atr Go.Proofs.YtkhgfngppcemlaaGreatDoor.link

theorem encN_len (x : Nd × (Value × Value)) : (encN x.1 x.2).length = 5 := rfl
theorem own_cap {w : World} {b e : Nat} {size : Nat} {v : Value} {n : Nat} {xs : List Value} (h : w.ownsRow b e size v n xs) : CapOk v := by
  rcases h.2 with ⟨rfl, _⟩ | ⟨g, cap, cur, rfl, _, _, hc, _⟩
  · exact CapOk.nil
  · intro a n' c' e; cases e; exact hc
theorem attrs_own {w : World} {B : Nat} {v : Value} {l : List Attr} (h : w.ownsRow B 130 2 v l.length (l.flatMap encA)) : AttrsAt w v l := by
  rcases RowAt.of_owns h with ⟨h0, _, oa, cap, rfl⟩ | ⟨b, off, cap, rfl, h0, hb, hc⟩
  · exact .inl ⟨List.length_eq_zero_iff.1 h0, oa, cap, rfl⟩
  · refine .inr ⟨b, off, cap, rfl, h0, hb, fun j hj => ?_⟩
    have e0 := flat_at encA 2 (fun _ => rfl) l j hj 0 (by decide)
    have e1 := flat_at encA 2 (fun _ => rfl) l j hj 1 (by decide)
    refine ⟨hc (j * 2) _ (by simpa [encA] using e0), ?_⟩
    have := hc (j * 2 + 1) (.string ⟨l[j].2.toArray⟩) (by simpa [encA] using e1)
    rw [Nat.add_assoc]
    exact this
theorem CpR.nodes {w : World} {B : Nat} {v : Value} {l : List Nd} {ps : List (Value × Value)} (h : CpR w B v l ps) : NodesAt w v l := by
  rcases RowAt.of_owns h.row with ⟨h0, _, oa, cap, rfl⟩ | ⟨b, off, cap, rfl, h0, hb, hc⟩
  · exact .inl ⟨List.length_eq_zero_iff.1 h0, oa, cap, rfl⟩
  · refine .inr ⟨b, off, cap, rfl, h0, hb, fun j hj => ?_⟩
    have hj' : j < ps.length := by rw [h.len]; exact hj
    have hz : j < (l.zip ps).length := by rw [List.length_zip, h.len, Nat.min_self]; exact hj
    have ez : (l.zip ps)[j] = (l[j], ps[j]) := List.getElem_zip
    have key : ∀ i (hi : i < 5) u, (encN l[j] ps[j])[i]? = some u → w.cell? ⟨b, off + j * 5 + i, none⟩ = some u := by
      intro i hi u hu
      have := flat_at (fun x : Nd × (Value × Value) => encN x.1 x.2) 5 encN_len (l.zip ps) j hz i hi
      rw [ez] at this
      rw [Nat.add_assoc]
      exact hc _ _ (this.trans hu)
    refine ⟨ps[j].1, ps[j].2, key 0 (by decide) _ rfl, key 1 (by decide) _ rfl, key 2 (by decide) _ rfl, key 3 (by decide) _ rfl, key 4 (by decide) _ rfl, attrs_own (h.attrs j hj hj'), ?_, own_cap (h.attrs j hj hj')⟩
    exact OwnI.ints (h.kids j hj hj')
end Go.Proofs.YtkhgfngppcemlaaGreatDoor.doc
