/- A part of the proofs: lemmas and contracts. -/
import Derived.Deep.Fields
import Derived.Stop.LaidErr
import Derived.Test.YtkhlfggnjcbniaaGreatDoorP21
import Derived.Test.YtkhlfggnjcbniaaGreatDoorP23
import Derived.Test.YtkhlfggnjcbniaaGreatDoorP25
set_option maxHeartbeats 12800000
set_option maxRecDepth 1000000
namespace Go.Proofs.YtkhlfggnjcbniaaGreatDoor.doc
open Go.ChangeShapes Go.WideShapes Go.ChangeAt Go.RowKit Go.Lib atr link

theorem encN_len (x : Nd × (Value × Value)) : (encN x.1 x.2).length = 5 := rfl
theorem own_cap {w : World} {b e : Nat} {size : Nat} {v : Value} {n : Nat} {xs : List Value} (h : w.ownsRow b e size v n xs) : CapOk v := by
 rcases h.2 with ⟨rfl, _⟩ | ⟨g, cap, cur, rfl, _, _, hc, _⟩
 ·exact CapOk.nil
 ·intro a n' c' e; cases e; exact hc
theorem attrs_own {w : World} {B : Nat} {v : Value} {l : List Attr} (h : w.ownsRow B 45 2 v l.length (l.flatMap encA)) : AttrsAt w v l := by
 rcases RowAt.of_owns h with ⟨h0, _, oa, cap, rfl⟩ | ⟨b, off, cap, rfl, h0, hb, hc⟩
 ·exact .inl ⟨List.length_eq_zero_iff.1 h0, oa, cap, rfl⟩
 ·refine .inr ⟨b, off, cap, rfl, h0, hb, fun j hj => ?_⟩
  have e0 := flat_at encA 2 (fun _ => rfl) l j hj 0 (by decide)
  have e1 := flat_at encA 2 (fun _ => rfl) l j hj 1 (by decide)
  refine ⟨hc (j * 2) _ (by simpa [encA] using e0), ?_⟩
  have := hc (j * 2 + 1) (.string ⟨l[j].2.toArray⟩) (by simpa [encA] using e1)
  rw [Nat.add_assoc]
  exact this
theorem CpR.nodes {w : World} {B : Nat} {v : Value} {l : List Nd} {ps : List (Value × Value)} (h : CpR w B v l ps) : NodesAt w v l := by
 rcases RowAt.of_owns h.row with ⟨h0, _, oa, cap, rfl⟩ | ⟨b, off, cap, rfl, h0, hb, hc⟩
 ·exact .inl ⟨List.length_eq_zero_iff.1 h0, oa, cap, rfl⟩
 ·refine .inr ⟨b, off, cap, rfl, h0, hb, fun j hj => ?_⟩
  have hj' : j < ps.length := by rw [h.len]; exact hj
  have hz : j < (l.zip ps).length := by rw [List.length_zip, h.len, Nat.min_self]; exact hj
  have ez : (l.zip ps)[j] = (l[j], ps[j]) := List.getElem_zip
  have key : ∀ i (hi : i < 5) u, (encN l[j] ps[j])[i]? = some u → w.cell? ⟨b, off + j * 5 + i, none⟩ = some u := by
   intro i hi u hu
   have := flat_at (fun x : Nd × (Value × Value) => encN x.1 x.2) 5 encN_len (l.zip ps) j hz i hi
   rw [ez] at this
   rw [Nat.add_assoc]
   exact hc _ _ (this.trans hu)
  refine ⟨ps[j].1, ps[j].2, key 0 (by decide) _ rfl, key 1 (by decide) _ rfl, key 2 (by decide) _ rfl, key 3 (by decide) _ rfl, key 4 (by decide) _ rfl, attrs_own (h.attrs j hj hj'), ?_, own_cap (h.attrs j hj hj')⟩
  exact OwnI.ints (h.kids j hj hj')
end Go.Proofs.YtkhlfggnjcbniaaGreatDoor.doc
namespace Go.Proofs.YtkhlfggnjcbniaaGreatDoor.link
open Go.ChangeShapes Go.WideShapes Go.ChangeAt Go.RowKit Go.Lib

def markB (c : UInt8) : Bool := hasB [43, 45, 46] c
def sch : Bool → List UInt8 → Option Nat
 | _, [] => none
 | first, c :: r => if c = 58 then (if first then none else some 0)
  else if (plainB c || markB c) && (!first || (plainB c && !digC c)) then (sch false r).map (· + 1) else none
def schT (l : List UInt8) (o : Option Nat) : List UInt8 := match o with | none => [] | some n => lowS (l.take n)

theorem sch_colon (first : Bool) (r : List UInt8) : sch first (58 :: r) = if first then none else some 0 := by rw [sch, if_pos rfl]
theorem sch_cons (first : Bool) (c : UInt8) (r : List UInt8) (h : c ≠ 58) : sch first (c :: r) = if (plainB c || markB c) && (!first || (plainB c && !digC c)) then (sch false r).map (· + 1) else none := by rw [sch, if_neg h]

theorem ret_sch (a : List UInt8) (b : Bool) (a' : List UInt8) (b' : Bool) (h : a = a') (g : b = b') : Ending.returned (.tuple #[.string ⟨a.toArray⟩, .bool b]) = .returned (.tuple #[.string ⟨a'.toArray⟩, .bool b']) := by rw [h, g]

end Go.Proofs.YtkhlfggnjcbniaaGreatDoor.link
namespace Go.Proofs.YtkhlfggnjcbniaaGreatDoor
open Go.RowKit Go.Lib
structure GU (w : World) : Prop where
 u8 : Lib.Utf8Tabs 2 3 w
theorem GU.below {w w' : World} (h : GU w) (hb : Below w.heap.size w w') : GU w' := ⟨Utf8Tabs_below h.u8 hb⟩
theorem valid_lib (l : List UInt8) (hl : l.length ≤ 1000000000) (w : World) (hU : GU w) :
  Calls Tryz.prog 243 #[.string ⟨l.toArray⟩] w fun e w' => e = .returned (.bool (validD l)) ∧ Below w.heap.size w w' :=
 Any.utf8_ValidString Tryz.lays196 ⟨l.toArray⟩ w (by rw [bsize]; omega) hU.u8
end Go.Proofs.YtkhlfggnjcbniaaGreatDoor
namespace Go.Proofs.YtkhlfggnjcbniaaGreatDoor.doc
open Go.ChangeShapes Go.WideShapes Go.ChangeAt Go.RowKit Go.Lib atr link

def membQ (l : List Nd) (k : Int) : List Int := if isP l k 17 then withP l (keyP l k) (topP l k) else []
def wtB (l : List Nd) (κ : Key) (k : Int) : Bool := radB l k && decide (keyP l k = κ)
theorem withP_eq (l : List Nd) (κ : Key) (i : Int) : withP l κ i = (ordP l i).filter (wtB l κ) := rfl

end Go.Proofs.YtkhlfggnjcbniaaGreatDoor.doc
namespace Go.Proofs.YtkhlfggnjcbniaaGreatDoor
open Go.ChangeShapes Go.WideShapes Go.Deep Go.RowKit
section
variable {H : Type} {P : Program}
def Light (P : Program) (t : TypeId) (d : DataW H) : Prop := ∀ n ∈ d.weights P t, n ≤ reachBytes
theorem Light.str {t : TypeId} {bs : List UInt8} (h : Light P t (.lit (.string bs) : DataW H)) : bs.length ≤ reachBytes := h _ (by simp [DataW.weights])
theorem Light.slice {t e : TypeId} {a b : List (DataW H)} (hu : P.underlying t = some (.slice e)) (h : Light P t (.slice a b : DataW H)) : (a.length + b.length) * P.bytesOf e ≤ reachBytes :=
 h _ (by simp [DataW.weights, hu])
theorem mem_all {e : TypeId} : ∀ {l : List (DataW H)} {i : Nat} {d : DataW H}, l[i]? = some d → ∀ n ∈ d.weights P e, n ∈ DataW.weightsAll P e l
 | x :: l, 0, d, h, n, hn => by
  simp only [List.getElem?_cons_zero, Option.some.injEq] at h
  subst h
  simp only [DataW.weightsAll, List.mem_append]
  exact Or.inl hn
 | x :: l, i + 1, d, h, n, hn => by
  simp only [List.getElem?_cons_succ] at h
  simp only [DataW.weightsAll, List.mem_append]
  exact Or.inr (mem_all h n hn)
 | [], _, _, h, _, _ => by simp at h
theorem Light.elem {t e : TypeId} {a b : List (DataW H)} (hu : P.underlying t = some (.slice e)) (h : Light P t (.slice a b : DataW H)) {i : Nat} {d : DataW H} (hi : a[i]? = some d) : Light P e d :=
 fun n hn => h n (by
  have := mem_all hi n hn
  simp [DataW.weights, hu, this])
theorem Light.field {t : TypeId} {fs : Array Field} {ps : List (DataW H)} (hu : P.underlying t = some (.struct fs)) (h : Light P t (.agg ps : DataW H)) {j : Nat} {f : Field} {d : DataW H} (hf : fs[j]? = some f) (hd : ps[j]? = some d) : Light P f.type d :=
 fun n hn => h n (by
  have : n ∈ DataW.weightsEach P (fs.toList.map (·.type)) ps := DataW.weights_mem_each (j := j) (t := f.type) (by simp [hf]) hd n hn
  simpa [DataW.weights, hu] using this)
theorem Light.arg {ts : List TypeId} {ds : List (DataW H)} (h : (DataW.weightsEach P ts ds).all (· ≤ reachBytes) = true) {j : Nat} {t : TypeId} {d : DataW H} (ht : ts[j]? = some t) (hd : ds[j]? = some d) : Light P t d := by
 intro n hn
 have := List.all_eq_true.1 h n (DataW.weights_mem_each ht hd n hn)
 simpa using this
end
section
variable {H : Type} {enc : TypeId × Value → H} {P : Program} {w : World} {base : Nat} {spare : Nat → Bool} {held : Bool}
theorem open_rows {t e : TypeId} {fs : Array Field} {fuel : Nat} {cs : List Value} {x : DataW H × List MemPlace} (ht : P.underlying t = some (.slice e)) (he : P.underlying e = some (.struct fs))
  (hone : oneCellFields P fs = true) (hC : P.cellsOf e = fs.size) (h : DataW.trod enc P w base spare held fuel t cs = some x) (hL : Light P t x.1) :
  (cs = [.slice none 0 0] ∧ x = (.nil, [])) ∨
  ∃ (a : Addr) (len cap : Nat), cs = [.slice (some a) len cap] ∧ len ≤ cap ∧ cap ≤ maxLen ∧ len * P.bytesOf e ≤ reachBytes ∧ (∀ k, k < len * fs.size → .cell a.block (a.off + k) ∈ x.2) ∧
   ∀ i, i < len → ∀ (j : Nat) (f : Field), fs[j]? = some f → ∃ (v : Value) (y : DataW H × List MemPlace) (n : Nat), w.cell? (a.add (i * fs.size + j)) = some v ∧ DataW.trod enc P w base spare held n f.type [v] = some y ∧ Light P f.type y.1 ∧ ∀ p ∈ y.2, p ∈ x.2 := by
 rcases open_slice ht h with h0 | ⟨a, len, cap, m, n, D, Pl, hcs, hb, hl, hm, hmm, hx, hi⟩
 ·exact .inl h0
 ·have hml : len ≤ m := by rw [hmm]; split <;> omega
  refine .inr ⟨a, len, cap, hcs, hl, hm, ?_, ?_, fun i hil j f hj => ?_⟩
  ·rw [hx] at hL
   have := hL.slice ht
   simp only [List.length_map, List.length_range] at this
   exact Nat.le_trans (Nat.mul_le_mul (Nat.le_add_right _ _) (Nat.le_refl _)) this
  ·intro k hk
   rw [hx, hC]
   refine List.mem_append_left _ (MemPlace.mem_row.2 ⟨k, ?_, rfl⟩)
   exact Nat.lt_of_lt_of_le hk (Nat.mul_le_mul hml (Nat.le_refl _))
  ·have him : i < m := Nat.lt_of_lt_of_le hil hml
   have hLi : Light P e (D i) := by
    rw [hx] at hL
    exact hL.elem ht (i := i) (by simp [hil])
   obtain ⟨cs', hc, ht'⟩ := hi i him
   rw [hC] at hc
   obtain ⟨ys, n', hn', hy, hlen, hyl, hf⟩ := DataW.trod_struct he ht'
   obtain ⟨_, hcl, hat⟩ := World.cells?_some hc
   simp only [Prod.mk.injEq] at hy
   obtain ⟨ho, hk⟩ := hone_of hone j f hj
   have hjl : j < fs.size := (Array.getElem?_eq_some_iff.1 hj).1
   have hcell := hat j hjl
   have hv : cs'[j]? = some (cs'[j]'(by omega)) := List.getElem?_eq_getElem (by omega)
   have h1 := hf j f hj
   rw [ho, hk] at h1
   have hone' : (cs'.drop j).take 1 = [cs'[j]'(by omega)] := by
    rw [List.drop_eq_getElem_cons (by omega)]
    rfl
   rw [hone'] at h1
   have hys : ys[j]? = some (ys[j]'(by omega)) := List.getElem?_eq_getElem (by omega)
   refine ⟨_, ys[j]'(by omega), n', ?_, h1.trans hys, ?_, ?_⟩
   ·rw [← Go.Deep.add_add, hcell, hv]
   ·rw [hy.1] at hLi
    exact hLi.field he hj (by rw [List.getElem?_map, hys]; rfl)
   ·intro p hp
    rw [hx]
    refine List.mem_append_right _ (List.mem_flatMap.2 ⟨i, List.mem_range.2 him, ?_⟩)
    rw [hy.2]
    exact List.mem_flatMap.2 ⟨_, List.getElem_mem (by omega), hp⟩
theorem open_fields {t : TypeId} {fs : Array Field} {fuel : Nat} {cs : List Value} {x : DataW H × List MemPlace} (ht : P.underlying t = some (.struct fs)) (h : DataW.trod enc P w base spare held fuel t cs = some x) (hL : Light P t x.1) :
  cs.length = P.cellsOf t ∧ ∀ (j : Nat) (f : Field), fs[j]? = some f → ∃ (y : DataW H × List MemPlace) (n : Nat), DataW.trod enc P w base spare held n f.type ((cs.drop f.offset).take (P.cellsOf f.type)) = some y ∧ Light P f.type y.1 ∧ ∀ p ∈ y.2, p ∈ x.2 := by
 obtain ⟨ys, n', hn', hy, hlen, hyl, hf⟩ := DataW.trod_struct ht h
 refine ⟨hlen, fun j f hj => ?_⟩
 have hjl : j < fs.size := (Array.getElem?_eq_some_iff.1 hj).1
 have hys : ys[j]? = some (ys[j]'(by omega)) := List.getElem?_eq_getElem (by omega)
 refine ⟨ys[j]'(by omega), n', (hf j f hj).trans hys, ?_, ?_⟩
 ·rw [hy] at hL
  exact hL.field ht hj (by rw [List.getElem?_map, hys]; rfl)
 ·intro p hp
  rw [hy]
  exact List.mem_flatMap.2 ⟨_, List.getElem_mem (by omega), hp⟩
end
end Go.Proofs.YtkhlfggnjcbniaaGreatDoor
namespace Go.Proofs.YtkhlfggnjcbniaaGreatDoor
theorem star : "*" ++ "errors.errorString" = "*errors.errorString" := by decide
theorem errRow (u : TypeId) (h : Tryz.prog.typeName? 3 u = some "*errors.errorString") : u = 257 :=
 typeName_ptr_named (nm := "errors.errorString") (by rw [star]; kernel_rfl) (by kernel_rfl) (by decide) u (by rw [star]; exact h)
end Go.Proofs.YtkhlfggnjcbniaaGreatDoor
