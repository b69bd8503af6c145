/- What is read takes few bytes, deep down; a slice of structs, a struct by value, opened field by field. The contract of option.Choose. -/
import Derived.BigQuiet
import Derived.BigRegion
import Derived.ChangeAlike
import Derived.ChangeSame
import Derived.Deep.AppendLies
import Derived.Deep.CutBlock
import Derived.Deep.DeepCutAuto
import Derived.Deep.Fields
import Derived.Deep.MidRow
import Derived.Deep.RegionHeld
import Derived.Deep.RegionHeld3
import Derived.Deep.RegionLaw
import Derived.Deep.RegionLawGrows
import Derived.Deep.SlicePairs
import Derived.Deep.Slices
import Derived.Ground.MpProg
import Derived.Laws.BytesArg
import Derived.Laws.IdiomStrings
import Derived.Laws.OwnMore
import Derived.Lib.AppendStr
import Derived.Lib.Hide
import Derived.Lib.IndexBytes
import Derived.Lib.IndexMore
import Derived.Lib.ItoaMem
import Derived.Lib.ItoaNum
import Derived.Lib.Replace
import Derived.Lib.SlTrimSet
import Derived.Lib.SliceRun
import Derived.Lib.Strings
import Derived.LoopIn
import Derived.LoopNIn
import Derived.Maps.AppendAt
import Derived.OneCell
import Derived.OpenShut
import Derived.OrdersIn
import Derived.OwnWalkIn
import Derived.ProofKit
import Derived.RangeFuncBound
import Derived.RangeFuncBox
import Derived.RangeFuncCalls
import Derived.RangeFuncLeaves
import Derived.RangeFuncNested
import Derived.RegionTactic
import Derived.Shelf.Abstract
import Derived.Shelf.RegionOpen
import Derived.Shelf.SlicesQ.IndexFunc
import Derived.Shelf.Strconv.AtoiAll
import Derived.Shelf.Strings.BuilderK
import Derived.Shelf.Strings.SlTrimAscii
import Derived.SizedLaws
import Derived.TacticsIn
import Derived.TacticsInMore
import Derived.WalkKit
import Derived.WalkSmall
import Derived.WalkSpells
import Derived.WideKeyArgs
import Derived.Test.YtkhlfggnjcbniaaGreatDoorRows
import Derived.Test.YtkhlfggnjcbniaaGreatDoorShelf
import Derived.Test.YtkhlfggnjcbniaaGreatDoorP0
import Derived.Test.YtkhlfggnjcbniaaGreatDoorP1
import Derived.Test.YtkhlfggnjcbniaaGreatDoorP2
import Derived.Test.YtkhlfggnjcbniaaGreatDoorP3
import Derived.Test.YtkhlfggnjcbniaaGreatDoorP5
import Derived.Test.YtkhlfggnjcbniaaGreatDoorP6
import Derived.Test.YtkhlfggnjcbniaaGreatDoorP7
import Derived.Test.YtkhlfggnjcbniaaGreatDoorP8
import Derived.Test.YtkhlfggnjcbniaaGreatDoorP9
import Derived.Test.YtkhlfggnjcbniaaGreatDoorP10
import Derived.Test.YtkhlfggnjcbniaaGreatDoorP11
import Derived.Test.YtkhlfggnjcbniaaGreatDoorP12
import Derived.Test.YtkhlfggnjcbniaaGreatDoorP13
import Derived.Test.YtkhlfggnjcbniaaGreatDoorP14
import Derived.Test.YtkhlfggnjcbniaaGreatDoorP17
import Derived.Test.YtkhlfggnjcbniaaGreatDoorP18
import Derived.Test.YtkhlfggnjcbniaaGreatDoorP19
import Derived.Test.YtkhlfggnjcbniaaGreatDoorP20
import Derived.Test.YtkhlfggnjcbniaaGreatDoorP21
import Derived.Test.YtkhlfggnjcbniaaGreatDoorP22
import Derived.Test.YtkhlfggnjcbniaaGreatDoorP23
import Derived.Test.YtkhlfggnjcbniaaGreatDoorP24
import Derived.Test.YtkhlfggnjcbniaaGreatDoorP25
import Derived.Test.YtkhlfggnjcbniaaGreatDoorP26
import Derived.Test.YtkhlfggnjcbniaaGreatDoorP27
namespace Go.Proofs.YtkhlfggnjcbniaaGreatDoor
open Go.ChangeShapes Go.WideShapes Go.Deep Go.RowKit
section
variable {H : Type} {P : Program}
def Light (P : Program) (t : TypeId) (d : DataW H) : Prop := ∀ n ∈ d.weights P t, n ≤ reachBytes
theorem Light.str {t : TypeId} {bs : List UInt8} (h : Light P t (.lit (.string bs) : DataW H)) : bs.length ≤ reachBytes := h _ (by simp [DataW.weights])
theorem Light.slice {t e : TypeId} {a b : List (DataW H)} (hu : P.underlying t = some (.slice e)) (h : Light P t (.slice a b : DataW H)) : (a.length + b.length) * P.bytesOf e ≤ reachBytes :=
  h _ (by simp [DataW.weights, hu])
theorem mem_all {e : TypeId} : ∀ {l : List (DataW H)} {i : Nat} {d : DataW H}, l[i]? = some d → ∀ n ∈ d.weights P e, n ∈ DataW.weightsAll P e l
  | x :: l, 0, d, h, n, hn => by
    simp only [List.getElem?_cons_zero, Option.some.injEq] at h
    subst h
    simp only [DataW.weightsAll, List.mem_append]
    exact Or.inl hn
  | x :: l, i + 1, d, h, n, hn => by
    simp only [List.getElem?_cons_succ] at h
    simp only [DataW.weightsAll, List.mem_append]
    exact Or.inr (mem_all h n hn)
  | [], _, _, h, _, _ => by simp at h
theorem Light.elem {t e : TypeId} {a b : List (DataW H)} (hu : P.underlying t = some (.slice e)) (h : Light P t (.slice a b : DataW H)) {i : Nat} {d : DataW H} (hi : a[i]? = some d) : Light P e d :=
  fun n hn => h n (by
    have := mem_all hi n hn
    simp [DataW.weights, hu, this])
theorem Light.field {t : TypeId} {fs : Array Field} {ps : List (DataW H)} (hu : P.underlying t = some (.struct fs)) (h : Light P t (.agg ps : DataW H)) {j : Nat} {f : Field} {d : DataW H} (hf : fs[j]? = some f) (hd : ps[j]? = some d) : Light P f.type d :=
  fun n hn => h n (by
    have : n ∈ DataW.weightsEach P (fs.toList.map (·.type)) ps := DataW.weights_mem_each (j := j) (t := f.type) (by simp [hf]) hd n hn
    simpa [DataW.weights, hu] using this)
theorem Light.arg {ts : List TypeId} {ds : List (DataW H)} (h : (DataW.weightsEach P ts ds).all (· ≤ reachBytes) = true) {j : Nat} {t : TypeId} {d : DataW H} (ht : ts[j]? = some t) (hd : ds[j]? = some d) : Light P t d := by
  intro n hn
  have := List.all_eq_true.1 h n (DataW.weights_mem_each ht hd n hn)
  simpa using this
end
section
variable {H : Type} {enc : TypeId × Value → H} {P : Program} {w : World} {base : Nat} {spare : Nat → Bool} {held : Bool}
/-- a slice of structs whose fields have one cell each -/
theorem open_rows {t e : TypeId} {fs : Array Field} {fuel : Nat} {cs : List Value} {x : DataW H × List MemPlace} (ht : P.underlying t = some (.slice e)) (he : P.underlying e = some (.struct fs))
    (hone : oneCellFields P fs = true) (hC : P.cellsOf e = fs.size) (h : DataW.trod enc P w base spare held fuel t cs = some x) (hL : Light P t x.1) :
    (cs = [.slice none 0 0] ∧ x = (.nil, [])) ∨
    ∃ (a : Addr) (len cap : Nat), cs = [.slice (some a) len cap] ∧ len ≤ cap ∧ cap ≤ maxLen ∧ len * P.bytesOf e ≤ reachBytes ∧ (∀ k, k < len * fs.size → .cell a.block (a.off + k) ∈ x.2) ∧
      ∀ i, i < len → ∀ (j : Nat) (f : Field), fs[j]? = some f → ∃ (v : Value) (y : DataW H × List MemPlace) (n : Nat), w.cell? (a.add (i * fs.size + j)) = some v ∧ DataW.trod enc P w base spare held n f.type [v] = some y ∧ Light P f.type y.1 ∧ ∀ p ∈ y.2, p ∈ x.2 := by
  rcases open_slice ht h with h0 | ⟨a, len, cap, m, n, D, Pl, hcs, hb, hl, hm, hmm, hx, hi⟩
  · exact .inl h0
  · have hml : len ≤ m := by rw [hmm]; split <;> omega
    refine .inr ⟨a, len, cap, hcs, hl, hm, ?_, ?_, fun i hil j f hj => ?_⟩
    · rw [hx] at hL
      have := hL.slice ht
      simp only [List.length_map, List.length_range] at this
      exact Nat.le_trans (Nat.mul_le_mul (Nat.le_add_right _ _) (Nat.le_refl _)) this
    · intro k hk
      rw [hx, hC]
      refine List.mem_append_left _ (MemPlace.mem_row.2 ⟨k, ?_, rfl⟩)
      exact Nat.lt_of_lt_of_le hk (Nat.mul_le_mul hml (Nat.le_refl _))
    · have him : i < m := Nat.lt_of_lt_of_le hil hml
      have hLi : Light P e (D i) := by
        rw [hx] at hL
        exact hL.elem ht (i := i) (by simp [hil])
      obtain ⟨cs', hc, ht'⟩ := hi i him
      rw [hC] at hc
      obtain ⟨ys, n', hn', hy, hlen, hyl, hf⟩ := DataW.trod_struct he ht'
      obtain ⟨_, hcl, hat⟩ := World.cells?_some hc
      simp only [Prod.mk.injEq] at hy
      obtain ⟨ho, hk⟩ := hone_of hone j f hj
      have hjl : j < fs.size := (Array.getElem?_eq_some_iff.1 hj).1
      have hcell := hat j hjl
      have hv : cs'[j]? = some (cs'[j]'(by omega)) := List.getElem?_eq_getElem (by omega)
      have h1 := hf j f hj
      rw [ho, hk] at h1
      have hone' : (cs'.drop j).take 1 = [cs'[j]'(by omega)] := by
        rw [List.drop_eq_getElem_cons (by omega)]
        rfl
      rw [hone'] at h1
      have hys : ys[j]? = some (ys[j]'(by omega)) := List.getElem?_eq_getElem (by omega)
      refine ⟨_, ys[j]'(by omega), n', ?_, h1.trans hys, ?_, ?_⟩
      · rw [← Go.Deep.add_add, hcell, hv]
      · rw [hy.1] at hLi
        exact hLi.field he hj (by rw [List.getElem?_map, hys]; rfl)
      · intro p hp
        rw [hx]
        refine List.mem_append_right _ (List.mem_flatMap.2 ⟨i, List.mem_range.2 him, ?_⟩)
        rw [hy.2]
        exact List.mem_flatMap.2 ⟨_, List.getElem_mem (by omega), hp⟩
/-- a struct by value: a field of it -/
theorem open_fields {t : TypeId} {fs : Array Field} {fuel : Nat} {cs : List Value} {x : DataW H × List MemPlace} (ht : P.underlying t = some (.struct fs)) (h : DataW.trod enc P w base spare held fuel t cs = some x) (hL : Light P t x.1) :
    cs.length = P.cellsOf t ∧ ∀ (j : Nat) (f : Field), fs[j]? = some f → ∃ (y : DataW H × List MemPlace) (n : Nat), DataW.trod enc P w base spare held n f.type ((cs.drop f.offset).take (P.cellsOf f.type)) = some y ∧ Light P f.type y.1 ∧ ∀ p ∈ y.2, p ∈ x.2 := by
  obtain ⟨ys, n', hn', hy, hlen, hyl, hf⟩ := DataW.trod_struct ht h
  refine ⟨hlen, fun j f hj => ?_⟩
  have hjl : j < fs.size := (Array.getElem?_eq_some_iff.1 hj).1
  have hys : ys[j]? = some (ys[j]'(by omega)) := List.getElem?_eq_getElem (by omega)
  refine ⟨ys[j]'(by omega), n', (hf j f hj).trans hys, ?_, ?_⟩
  · rw [hy] at hL
    exact hL.field ht hj (by rw [List.getElem?_map, hys]; rfl)
  · intro p hp
    rw [hy]
    exact List.mem_flatMap.2 ⟨_, List.getElem_mem (by omega), hp⟩
end
end Go.Proofs.YtkhlfggnjcbniaaGreatDoor
namespace Go.Proofs.YtkhlfggnjcbniaaGreatDoor.doc
open Go.ChangeShapes Go.WideShapes Go.ChangeAt Go.RowKit Go.Lib Go.Shelf Go.Proofs.YtkhlfggnjcbniaaGreatDoor.atr Go.Proofs.YtkhlfggnjcbniaaGreatDoor.link Go.Proofs.YtkhlfggnjcbniaaGreatDoor.ctl

theorem OwnC.two {w : World} {B g cap n : Nat} {cs : List Ctl} {fs : List Value} (h : OwnC w B (.slice (some ⟨g, 0, none⟩) n cap) cs fs) (hn : n = cs.length) (o : Nat) (ho : o < cs.length) (i j : Nat) (hi : i < 10) (hj : j < 10) (u v : Value) (c1 c2 : Ctl → Ctl)
    (hf1 : ∀ c, (c1 c).files = c.files) (hf2 : ∀ c, (c2 c).files = c.files) (he1 : ∀ c f, (encC c f).set i u = encC (c1 c) f) (he : ∀ c f, (encC (c1 c) f).set j v = encC (c2 c) f) :
    OwnC ((w.setCell ⟨g, o * 10 + i, none⟩ u).setCell ⟨g, o * 10 + j, none⟩ v) B (.slice (some ⟨g, 0, none⟩) n cap) (cs.modify o c2) fs := by
  have h1 := h.set hn o ho i hi u (c1 cs[o]) (hf1 _) (fun f => he1 _ f)
  have hl2 : o < (cs.set o (c1 cs[o])).length := by rw [List.length_set]; exact ho
  have h2 := h1.set (by rw [List.length_set]; exact hn) o hl2 j hj v (c2 cs[o]) (by rw [List.getElem_set_self, hf1]; exact hf2 _) (fun f => by rw [List.getElem_set_self]; exact he _ f)
  rw [List.set_set] at h2
  rw [modify_set ho]
  exact h2
end Go.Proofs.YtkhlfggnjcbniaaGreatDoor.doc
