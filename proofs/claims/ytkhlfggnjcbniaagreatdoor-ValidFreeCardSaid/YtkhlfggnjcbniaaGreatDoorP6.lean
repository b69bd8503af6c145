/- A part of the proofs: lemmas and contracts. -/
import Derived.Lib.AppendIntMem
import Derived.Lib.Repeat
import Derived.Test.YtkhlfggnjcbniaaGreatDoorP5
set_option maxHeartbeats 12800000
set_option maxRecDepth 1000000
namespace Go.Proofs.YtkhlfggnjcbniaaGreatDoor.link
open Go.Lib str

theorem spl_cut (c : UInt8) (l : List UInt8) : ∀ acc, spl c acc l = (acc ++ (cut1 c l).1) :: (if (cut1 c l).2.2 = true then spl c [] (cut1 c l).2.1 else []) := by
 induction l with
 | nil => intro acc; simp [spl, cut1]
 | cons b r ih =>
  intro acc
  by_cases h : b = c
  ·rw [spl, if_pos h, cut1, if_pos h]; simp
  ·rw [spl, if_neg h, cut1, if_neg h, ih]; simp

theorem spl_len (c : UInt8) (l : List UInt8) : ∀ acc, (spl c acc l).length = l.count c + 1 := by
 induction l with
 | nil => intro acc; simp [spl]
 | cons b r ih =>
  intro acc
  by_cases h : b = c
  ·subst h; rw [spl, if_pos rfl, List.length_cons, ih]; simp
  ·rw [spl, if_neg h, ih, List.count_cons]; simp [h]

theorem cut1_index (c : UInt8) (l : List UInt8) : (indexByte l c = -1 ∧ cut1 c l = (l, [], false)) ∨ ∃ i : Nat, indexByte l c = i ∧ cut1 c l = (l.take i, l.drop (i + 1), true) := by
 rw [← cut_one]
 unfold Lib.cut
 rw [index_one]
 have hge := indexByte_ge l c
 by_cases h : indexByte l c = -1
 ·left; refine ⟨h, ?_⟩; rw [h]; rfl
 ·right
  obtain ⟨i, hi⟩ : ∃ i : Nat, indexByte l c = i := ⟨(indexByte l c).toNat, by omega⟩
  refine ⟨i, hi, ?_⟩
  rw [hi, if_pos (by omega)]
  simp

theorem split_spl (c : UInt8) : ∀ (k : Nat) (l : List UInt8), l.count c ≤ k → splitB ⟨#[c]⟩ 0 k ⟨l.toArray⟩ = (spl c [] l).map fun x => (⟨x.toArray⟩ : ByteArray) := by
 intro k
 induction k with
 | zero =>
  intro l hl
  rw [splitB_zero, spl_cut]
  rcases cut1_index c l with ⟨_, h⟩ | ⟨i, hi, h⟩
  ·rw [h]; simp
  ·exfalso
   have := (indexByte_some hi).1
   have hm : c ∈ l := List.mem_of_getElem? this
   have := List.count_pos_iff.2 hm
   omega
 | succ k ih =>
  intro l hl
  rw [spl_cut]
  have e : indexB ⟨l.toArray⟩ ⟨#[c]⟩ = indexByte l c := by
   show index l [c] = _
   rw [index_one]
  rcases cut1_index c l with ⟨h0, h⟩ | ⟨i, hi, h⟩
  ·rw [splitB_miss _ _ _ _ (by rw [e, h0]), h]; simp
  ·rw [splitB_hit _ _ _ _ i (by rw [e, hi]), h]
   have hg := (indexByte_some hi).1
   have hlt : i < l.length := (List.getElem?_eq_some_iff.1 hg).1
   have hc : (l.drop (i + 1)).count c ≤ k := by
    have h1 : l.count c = (l.take i).count c + (l.drop i).count c := by rw [← List.count_append, List.take_append_drop]
    have h2 : l.drop i = c :: l.drop (i + 1) := by
     rw [List.drop_eq_getElem_cons hlt]
     congr 1
     exact Option.some.inj (by rw [← List.getElem?_eq_getElem, hg])
    rw [h2, List.count_cons_self] at h1
    omega
   have e1 : (⟨l.toArray⟩ : ByteArray).extract 0 (i + 0) = ⟨(l.take i).toArray⟩ := by rw [bext]; simp
   have e2 : (⟨l.toArray⟩ : ByteArray).extract (i + (⟨#[c]⟩ : ByteArray).size) (⟨l.toArray⟩ : ByteArray).size = ⟨(l.drop (i + 1)).toArray⟩ := by
    rw [bext, bsize, show (⟨#[c]⟩ : ByteArray).size = 1 from rfl, take_drop_all]
   rw [e1, e2, ih _ hc]
   simp
end Go.Proofs.YtkhlfggnjcbniaaGreatDoor.link
namespace Go.Proofs.YtkhlfggnjcbniaaGreatDoor.link
open Go.ChangeShapes Go.WideShapes Go.ChangeAt Go.RowKit Go.Lib str

def StrAt (w : World) (b : Nat) (ls : List (List UInt8)) : Prop := ∀ j (h : j < ls.length), w.cell? ⟨b, j, none⟩ = some (.string ⟨(ls[j]).toArray⟩)

theorem StrAt.below {w w' : World} {b : Nat} {ls : List (List UInt8)} (h : StrAt w b ls) (hb : Below w.heap.size w w') : StrAt w' b ls := fun j hj => cell_below hb (h j hj)
theorem StrAt.under {w w' : World} {B b : Nat} {ls : List (List UInt8)} (h : StrAt w b ls) (hl : b < B) (hb : Below B w w') : StrAt w' b ls := fun j hj => by rw [hb.cell hl]; exact h j hj
theorem StrAt.lt {w : World} {b : Nat} {ls : List (List UInt8)} (h : StrAt w b ls) (hn : 0 < ls.length) : b < w.heap.size := lt_of_cell (h 0 hn)

theorem spl_pos (c : UInt8) (l : List UInt8) (acc : List UInt8) : 0 < (spl c acc l).length := by rw [spl_len]; omega

theorem spl_small (c : UInt8) (l : List UInt8) : ∀ acc x, x ∈ spl c acc l → x.length ≤ acc.length + l.length := by
 induction l with
 | nil => intro acc x h; simp [spl] at h; subst h; omega
 | cons b r ih =>
  intro acc x h
  unfold spl at h
  by_cases hb : b = c
  ·rw [if_pos hb] at h
   rcases List.mem_cons.1 h with rfl | h
   ·omega
   ·have := ih [] x h; simp at this ⊢; omega
  ·rw [if_neg hb] at h
   have := ih _ x h; simp at this ⊢; omega

theorem own_strs {w : World} {base : Nat} {v : Value} {ls : List (List UInt8)} (h : w.ownsRow base 9 1 v ls.length (strsOf ls)) (hp : 0 < ls.length) :
  ∃ b cap, v = .slice (some ⟨b, 0, none⟩) ls.length cap ∧ StrAt w b ls ∧ base ≤ b := by
 obtain ⟨h1, h | ⟨g, cap, cur, rfl, hg, hh, hc, hm, hs, ht⟩⟩ := h
 ·omega
 ·refine ⟨g, cap, rfl, ?_, hg⟩
  intro j hj
  have e : cur[j]? = some (.string ⟨(ls[j]).toArray⟩) := by
   rw [← Array.getElem?_toList]
   have e2 : (cur.toList.take (ls.length * 1))[j]? = (strsOf ls)[j]? := by rw [ht]
   rw [List.getElem?_take, if_pos (by omega)] at e2
   rw [e2]
   simp [strsOf, hj]
  simp [World.cell?, hh, e]

theorem rsplit_row (l : List UInt8) (c : UInt8) (hl : l.length ≤ 1000000) (w : World) :
  Calls Tryz.prog 111 #[.string ⟨l.toArray⟩, .int .u8 c.toNat] w fun e w' => ∃ b cap, e = .returned (.slice (some ⟨b, 0, none⟩) (spl c [] l).length cap) ∧ StrAt w' b (spl c [] l) ∧ Below w.heap.size w w' := by
 refine (rsplit_any l c hl w).mono ?_
 rintro e w' ⟨v, rfl, ho, hb⟩
 obtain ⟨b, cap, rfl, hs, _⟩ := own_strs ho (spl_pos c l [])
 exact ⟨b, cap, rfl, hs, hb⟩

theorem countB_one (l : List UInt8) (c : UInt8) : countB ⟨l.toArray⟩ ⟨#[c]⟩ = l.count c := Lib.count_one c l

theorem split_row (l : List UInt8) (c : UInt8) (hl : l.length ≤ 1000000) (w : World) (hG : G w) :
  Calls Tryz.prog 91 #[.string ⟨l.toArray⟩, .string ⟨#[c]⟩] w fun e w' => ∃ b cap, e = .returned (.slice (some ⟨b, 0, none⟩) (spl c [] l).length cap) ∧ StrAt w' b (spl c [] l) ∧ Below w.heap.size w w' ∧ (spl c [] l).length ≤ cap := by
 obtain ⟨m, hm⟩ := hG.ml
 refine (Tryz.strings_Split ⟨l.toArray⟩ ⟨#[c]⟩ m w (by rw [bsize]; omega) hm (Nat.le_refl 1)).mono ?_
 rintro e w' ⟨rfl, rfl⟩
 rw [countB_one, split_spl c _ l (Nat.le_refl _)]
 refine ⟨w.heap.size, l.count c + 1, ?_, ?_, (Below.refl _ _).alloc (Nat.le_refl _) _, by rw [spl_len]; exact Nat.le_refl _⟩
 ·rw [spl_len]
 ·intro j hj
  rw [World.cell?_alloc_new]
  simp [hj]
end Go.Proofs.YtkhlfggnjcbniaaGreatDoor.link
namespace Go.Proofs.YtkhlfggnjcbniaaGreatDoor
open Go.RowKit Go.Lib
structure GU (w : World) : Prop where
 u8 : Lib.Utf8Tabs 2 3 w
theorem GU.below {w w' : World} (h : GU w) (hb : Below w.heap.size w w') : GU w' := ⟨Utf8Tabs_below h.u8 hb⟩
theorem valid_lib (l : List UInt8) (hl : l.length ≤ 1000000000) (w : World) (hU : GU w) :
  Calls Tryz.prog 243 #[.string ⟨l.toArray⟩] w fun e w' => e = .returned (.bool (validD l)) ∧ Below w.heap.size w w' :=
 Any.utf8_ValidString Tryz.lays196 ⟨l.toArray⟩ w (by rw [bsize]; omega) hU.u8
end Go.Proofs.YtkhlfggnjcbniaaGreatDoor
namespace Go.Proofs.YtkhlfggnjcbniaaGreatDoor.atr
open Go.ChangeShapes Go.WideShapes Go.RowKit Go.Lib Go.Deep

def encA (x : Attr) : List Value := [.string ⟨x.1.toArray⟩, .string ⟨x.2.toArray⟩]
def RowA (w : World) (b off : Nat) (l : List Attr) : Prop :=
 ∀ j (h : j < l.length), w.cell? ⟨b, off + j * 2, none⟩ = some (.string ⟨l[j].1.toArray⟩) ∧ w.cell? ⟨b, off + j * 2 + 1, none⟩ = some (.string ⟨l[j].2.toArray⟩)
def AttrsAt (w : World) (v : Value) (l : List Attr) : Prop :=
 (l = [] ∧ ∃ oa cap, v = .slice oa 0 cap) ∨ ∃ b off cap, v = .slice (some ⟨b, off, none⟩) l.length cap ∧ 0 < l.length ∧ b < w.heap.size ∧ RowA w b off l

theorem RowA.below {w w' : World} {b off : Nat} {l : List Attr} (h : RowA w b off l) (hb : Below w.heap.size w w') (hlt : b < w.heap.size) : RowA w' b off l := by
 intro j hj
 obtain ⟨h1, h2⟩ := h j hj
 exact ⟨(hb.cell (p := ⟨b, off + j * 2, none⟩) hlt).trans h1, (hb.cell (p := ⟨b, off + j * 2 + 1, none⟩) hlt).trans h2⟩
theorem AttrsAt.below {w w' : World} {v : Value} {l : List Attr} (h : AttrsAt w v l) (hb : Below w.heap.size w w') : AttrsAt w' v l := by
 rcases h with h | ⟨b, off, cap, h1, h0, h2, h3⟩
 ·exact .inl h
 ·exact .inr ⟨b, off, cap, h1, h0, Nat.lt_of_lt_of_le h2 hb.size, h3.below hb h2⟩
theorem AttrsAt.nil (w : World) : AttrsAt w (.slice none 0 0) [] := .inl ⟨rfl, _, _, rfl⟩

def strOf : Value → List UInt8
 | .string s => s.data.toList
 | _ => []

section
variable {H : Type} {enc : TypeId × Value → H} {W : World} {base : Nat} {sp : Nat → Bool} {held : Bool}
end
end Go.Proofs.YtkhlfggnjcbniaaGreatDoor.atr
namespace Go.Proofs.YtkhlfggnjcbniaaGreatDoor
open Go.RowKit

def RowAt (w : World) (v : Value) (n : Nat) (xs : List Value) : Prop :=
 (n = 0 ∧ xs = [] ∧ ∃ oa cap, v = .slice oa 0 cap) ∨ ∃ b off cap, v = .slice (some ⟨b, off, none⟩) n cap ∧ 0 < n ∧ b < w.heap.size ∧ ∀ j u, xs[j]? = some u → w.cell? ⟨b, off + j, none⟩ = some u
theorem RowAt.below {w w' : World} {v : Value} {n : Nat} {xs : List Value} (h : RowAt w v n xs) {m : Nat} (hb : Below m w w') (hm : w.heap.size ≤ m) : RowAt w' v n xs := by
 rcases h with h | ⟨b, off, cap, h1, h0, h2, h3⟩
 ·exact .inl h
 ·exact .inr ⟨b, off, cap, h1, h0, Nat.lt_of_lt_of_le h2 hb.size, fun j u hj => (hb.cell (p := ⟨b, off + j, none⟩) (Nat.lt_of_lt_of_le h2 hm)).trans (h3 j u hj)⟩
theorem RowAt.of_owns {w : World} {base : Nat} {e : TypeId} {size : Nat} {v : Value} {n : Nat} {xs : List Value} (h : w.ownsRow base e size v n xs) : RowAt w v n xs := by
 rcases Nat.eq_zero_or_pos n with h0 | h0
 ·left
  have hl := h.1
  rw [h0, Nat.zero_mul] at hl
  refine ⟨h0, List.length_eq_zero_iff.1 hl, ?_⟩
  rcases h.2 with ⟨rfl, _⟩ | ⟨g, cap, cur, rfl, _⟩
  ·exact ⟨_, _, rfl⟩
  ·exact ⟨_, _, by rw [h0]⟩
 ·right
  rcases h.2 with ⟨_, h1⟩ | ⟨g, cap, cur, hv, hg, hc, h1, h2, h3, h4⟩
  ·omega
  ·subst hv
   refine ⟨g, 0, cap, rfl, h0, ?_, ?_⟩
   ·apply Nat.lt_of_not_le; intro k
    rw [Array.getElem?_eq_none k] at hc; cases hc
   ·intro j u hj
    rw [Nat.zero_add, h.cellAt j (by rw [← h.1]; exact (List.getElem?_eq_some_iff.1 hj).1)]
    exact hj
theorem RowAt.lenN {w : World} {v : Value} {n : Nat} {xs : List Value} (h : RowAt w v n xs) : ∃ oa cap, v = .slice oa n cap := by
 rcases h with ⟨rfl, _, oa, cap, rfl⟩ | ⟨b, off, cap, rfl, _⟩
 ·exact ⟨_, _, rfl⟩
 ·exact ⟨_, _, rfl⟩
theorem flat_len {α : Type} (f : α → List Value) (size : Nat) (hf : ∀ x, (f x).length = size) (l : List α) : (l.flatMap f).length = l.length * size := by
 induction l with
 | nil => simp
 | cons x r ih => rw [List.flatMap_cons, List.length_append, hf, ih, List.length_cons, Nat.add_mul, Nat.one_mul, Nat.add_comm]
theorem flat_at {α : Type} (f : α → List Value) (size : Nat) (hf : ∀ x, (f x).length = size) (l : List α) (j : Nat) (h : j < l.length) (i : Nat) (hi : i < size) : (l.flatMap f)[j * size + i]? = (f l[j])[i]? := by
 induction l generalizing j with
 | nil => exact absurd h (Nat.not_lt_zero _)
 | cons x r ih =>
  rw [List.flatMap_cons]
  cases j with
  | zero => rw [Nat.zero_mul, Nat.zero_add, List.getElem?_append_left (by rw [hf]; exact hi)]; rfl
  | succ j =>
   rw [List.getElem?_append_right (by rw [hf, Nat.add_mul]; omega), hf, show (j + 1) * size + i - size = j * size + i from by rw [Nat.add_mul]; omega]
   exact ih j (by simpa using h)
end Go.Proofs.YtkhlfggnjcbniaaGreatDoor
namespace Go.Proofs.YtkhlfggnjcbniaaGreatDoor.doc
open Go.ChangeShapes Go.WideShapes Go.ChangeAt Go.RowKit Go.Lib atr

def encI (k : Int) : List Value := [.int .i64 k]
def IntsAt (w : World) (v : Value) (ks : List Int) : Prop := RowAt w v ks.length (ks.flatMap encI)
theorem encI_len (x : Int) : (encI x).length = 1 := rfl
theorem IntsAt.below {w w' : World} {v : Value} {ks : List Int} (h : IntsAt w v ks) (hb : Below w.heap.size w w') : IntsAt w' v ks := RowAt.below h hb (Nat.le_refl _)
theorem IntsAt.nil (w : World) : IntsAt w (.slice none 0 0) [] := .inl ⟨rfl, rfl, _, _, rfl⟩
theorem ints_get (ks : List Int) (j : Nat) (h : j < ks.length) : (ks.flatMap encI)[j]? = some (.int .i64 ks[j]) := by
 have := flat_at encI 1 encI_len ks j h 0 (by decide)
 simpa [encI] using this
def nodeV (n : Nd) (va vk : Value) : Value := .agg #[.string ⟨n.name.toArray⟩, .string ⟨n.text.toArray⟩, va, .int .i64 n.parent, vk]
def CapOk (v : Value) : Prop := ∀ a n c, v = .slice a n c → n ≤ c
theorem CapOk.nil : CapOk (.slice none 0 0) := fun a n c e => by cases e; exact Nat.le_refl _
structure NodeAt (w : World) (b o : Nat) (n : Nd) (va vk : Value) : Prop where
 c0 : w.cell? ⟨b, o, none⟩ = some (.string ⟨n.name.toArray⟩)
 c1 : w.cell? ⟨b, o + 1, none⟩ = some (.string ⟨n.text.toArray⟩)
 c2 : w.cell? ⟨b, o + 2, none⟩ = some va
 c3 : w.cell? ⟨b, o + 3, none⟩ = some (.int .i64 n.parent)
 c4 : w.cell? ⟨b, o + 4, none⟩ = some vk
 attrs : AttrsAt w va n.attrs
 kids : IntsAt w vk n.kids
 cap : CapOk va
theorem NodeAt.below {w w' : World} {b o : Nat} {n : Nd} {va vk : Value} (h : NodeAt w b o n va vk) (hb : Below w.heap.size w w') : NodeAt w' b o n va vk :=
 ⟨cell_below hb h.c0, cell_below hb h.c1, cell_below hb h.c2, cell_below hb h.c3, cell_below hb h.c4, h.attrs.below hb, h.kids.below hb, h.cap⟩
def NodesAt (w : World) (v : Value) (l : List Nd) : Prop :=
 (l = [] ∧ ∃ oa cap, v = .slice oa 0 cap) ∨ ∃ b off cap, v = .slice (some ⟨b, off, none⟩) l.length cap ∧ 0 < l.length ∧ b < w.heap.size ∧ ∀ j (h : j < l.length), ∃ va vk, NodeAt w b (off + j * 5) l[j] va vk
theorem NodesAt.below {w w' : World} {v : Value} {l : List Nd} (h : NodesAt w v l) (hb : Below w.heap.size w w') : NodesAt w' v l := by
 rcases h with h | ⟨b, off, cap, h1, h0, h2, h3⟩
 ·exact .inl h
 ·exact .inr ⟨b, off, cap, h1, h0, Nat.lt_of_lt_of_le h2 hb.size, fun j hj => by
   obtain ⟨va, vk, h⟩ := h3 j hj
   exact ⟨va, vk, h.below hb⟩⟩
theorem NodesAt.lenN {w : World} {v : Value} {l : List Nd} (h : NodesAt w v l) : ∃ oa cap, v = .slice oa l.length cap := by
 rcases h with ⟨rfl, oa, cap, rfl⟩ | ⟨b, off, cap, rfl, _⟩
 ·exact ⟨_, _, rfl⟩
 ·exact ⟨_, _, rfl⟩
theorem NodesAt.at {w : World} {v : Value} {l : List Nd} (h : NodesAt w v l) (h0 : 0 < l.length) : ∃ b off cap, v = .slice (some ⟨b, off, none⟩) l.length cap ∧ b < w.heap.size ∧ ∀ k, 0 ≤ k → k < (l.length : Int) → ∃ va vk, NodeAt w b (off + k.toNat * 5) (nd l k) va vk := by
 rcases h with ⟨rfl, _⟩ | ⟨b, off, cap, rfl, _, hb, hc⟩
 ·exact absurd h0 (Nat.lt_irrefl _)
 ·refine ⟨b, off, cap, rfl, hb, fun k k0 k1 => ?_⟩
  have hk : k.toNat < l.length := by omega
  obtain ⟨va, vk, h⟩ := hc k.toNat hk
  refine ⟨va, vk, ?_⟩
  have := nd_cast l k.toNat hk
  rw [show ((k.toNat : Nat) : Int) = k from by omega] at this
  rw [this]; exact h
structure NFine (n : Nd) : Prop where
 name : n.name.length ≤ 140737488355328
 text : n.text.length ≤ 140737488355328
 attrs : n.attrs.length ≤ 140737488355328
 kids : n.kids.length ≤ 17592186044416
 an : ∀ a ∈ n.attrs, a.1.length ≤ 140737488355328 ∧ a.2.length ≤ 140737488355328
 par : (Lit.int .i64 n.parent).wf = true
 kid : ∀ k ∈ n.kids, (Lit.int .i64 k).wf = true
structure LFine (l : List Nd) : Prop where
 len : l.length ≤ 17592186044416
 each : ∀ n ∈ l, NFine n
theorem LFine.nd {l : List Nd} (h : LFine l) (k : Int) (h0 : 0 ≤ k) (h1 : k < (l.length : Int)) : NFine (nd l k) := by
 have hk : k.toNat < l.length := by omega
 have := nd_cast l k.toNat hk
 rw [show ((k.toNat : Nat) : Int) = k from by omega] at this
 rw [this]
 exact h.each _ (List.getElem_mem hk)
theorem wf_range {x : Int} (h : (Lit.int .i64 x).wf = true) : -9223372036854775808 ≤ x ∧ x ≤ 9223372036854775807 := by
 have h : (decide (IntKind.i64.min ≤ x) && decide (x ≤ IntKind.i64.max)) = true := h
 rw [Bool.and_eq_true, decide_eq_true_eq, decide_eq_true_eq] at h
 exact h
end Go.Proofs.YtkhlfggnjcbniaaGreatDoor.doc
namespace Go.Proofs.YtkhlfggnjcbniaaGreatDoor.doc
open atr link ctl num
def ct (cs : List Ctl) (k : Int) : Ctl := cs.getD k.toNat default
def selB (cs : List Ctl) (k : Int) : Bool := (ct cs k).selected
def hasA (nm : List UInt8) (a : List Attr) : Bool := (fval nm a).isSome
def textP (l : List Nd) (o : Int) : List UInt8 := (nd l o).text ++ (nd l o).kids.flatMap (fun k => (nd l k).text)
def valueP (l : List Nd) (o : Int) : List UInt8 := match fval nValue (nd l o).attrs with | some s => s | none => collapseS (textP l o)
def isP (l : List Nd) (k kind : Int) : Bool := decide (0 ≤ k) && decide (k < (l.length : Int)) && (kN l k == kind) && rightB l
def docR (l : List Nd) (cs : List Ctl) : Bool := decide (l.length = cs.length) && rightB l

def firstSel (cs : List Ctl) (os : List Int) : Option Int := os.find? (selB cs)
def selValue (l : List Nd) (cs : List Ctl) (sel : Int) : List UInt8 := match firstSel cs (optsP l sel) with | some o => valueP l o | none => []
def ValueP (l : List Nd) (cs : List Ctl) (sel : Int) : List UInt8 := if docR l cs = true ∧ isP l sel 23 = true then selValue l cs sel else []
theorem kids_nodup {l : List Nd} (h : Rt l) (k : Int) (hk : inR l k) : (nd l k).kids.Nodup := by
 rw [List.nodup_iff_count]
 intro c
 by_cases hc : c ∈ (nd l k).kids
 ·obtain ⟨c1, c2⟩ := h.kid k c hk hc
  have := h.once c c1 (by rw [c2]; exact hk.1)
  rw [c2] at this
  omega
 ·rw [List.count_eq_zero.2 hc]; omega
theorem flat_nodup (a : List Int) (f : Int → List Int) (ha : a.Nodup) (hf : ∀ x ∈ a, (f x).Nodup) (hd : ∀ x ∈ a, ∀ y ∈ a, x ≠ y → ∀ z ∈ f x, z ∉ f y) : (a.flatMap f).Nodup := by
 induction a with
 | nil => exact List.nodup_nil
 | cons x r ih =>
  rw [List.flatMap_cons, List.nodup_append]
  refine ⟨hf x List.mem_cons_self, ih (List.nodup_cons.1 ha).2 (fun y hy => hf y (List.mem_cons_of_mem _ hy)) (fun y hy z hz => hd y (List.mem_cons_of_mem _ hy) z (List.mem_cons_of_mem _ hz)), ?_⟩
  intro z hz w hw e
  obtain ⟨y, hy, hw⟩ := List.mem_flatMap.1 hw
  have hxy : x ≠ y := fun e2 => (List.nodup_cons.1 ha).1 (e2 ▸ hy)
  exact hd x List.mem_cons_self y (List.mem_cons_of_mem _ hy) hxy z hz (e ▸ hw)
theorem docR_iff (l : List Nd) (cs : List Ctl) : docR l cs = true ↔ l.length = cs.length ∧ rightB l = true := by
 unfold docR; rw [Bool.and_eq_true, decide_eq_true_eq]
theorem isP_iff (l : List Nd) (k kind : Int) : isP l k kind = true ↔ inR l k ∧ kN l k = kind ∧ rightB l = true := by
 unfold isP inR; simp only [Bool.and_eq_true, decide_eq_true_eq, beq_iff_eq, and_assoc]
end Go.Proofs.YtkhlfggnjcbniaaGreatDoor.doc
namespace Go.Proofs.YtkhlfggnjcbniaaGreatDoor.num
open Go.Lib

def frac (r : Nat) : List UInt8 := strip ((decDigits (1000000 + r)).drop 1)

def showS (n : Int) : List UInt8 :=
 let s := (if n < 0 then [45] else []) ++ decDigits (n.natAbs / 1000000)
 if n.natAbs % 1000000 = 0 then s else s ++ 46 :: frac (n.natAbs % 1000000)

def P : Nat → Nat → List UInt8
 | 0, _ => []
 | k + 1, r => UInt8.ofNat (48 + r / 100000) :: P k (r % 100000 * 10)

def frL : Nat → Nat → List UInt8
 | 0, _ => []
 | k + 1, r => if r = 0 then [] else UInt8.ofNat (48 + r / 100000) :: frL k (r % 100000 * 10)

theorem ofNat48 (k : Nat) (hk : k < 10) : UInt8.ofNat (48 + k) = 48 ↔ k = 0 := by
 constructor
 ·intro h
  have := congrArg UInt8.toNat h
  rw [UInt8.toNat_ofNat'] at this
  have e : (48 : UInt8).toNat = 48 := rfl
  omega
 ·rintro rfl; rfl

theorem strip_P0 (k : Nat) : strip (P k 0) = [] := by
 induction k with
 | zero => rfl
 | succ k ih =>
  have e : P (k + 1) 0 = 48 :: P k 0 := rfl
  rw [e, strip_zero _ ih]

theorem frL_nil (k r : Nat) (h : frL k r = []) : k = 0 ∨ r = 0 := by
 cases k with
 | zero => exact Or.inl rfl
 | succ k =>
  unfold frL at h
  by_cases h0 : r = 0
  ·exact Or.inr h0
  ·rw [if_neg h0] at h; cases h

theorem dvd_step (k r : Nat) (hk : k + 1 ≤ 6) (hq : ∃ q, r = q * 10 ^ (6 - (k + 1))) : ∃ q', r % 100000 * 10 = q' * 10 ^ (6 - k) := by
 obtain ⟨q, hq⟩ := hq
 have e : 6 - k = (6 - (k + 1)) + 1 := by omega
 have hd : 10 ^ (6 - (k + 1)) ∣ 100000 := by
  rw [show (100000 : Nat) = 10 ^ 5 from rfl]; exact Nat.pow_dvd_pow 10 (by omega)
 obtain ⟨d, hd⟩ := hd
 have hm : r % 100000 = (q % d) * 10 ^ (6 - (k + 1)) := by
  rw [hq, hd, Nat.mul_comm q, Nat.mul_mod_mul_left, Nat.mul_comm]
 exact ⟨q % d, by rw [hm, e, Nat.pow_succ, Nat.mul_assoc]⟩

theorem dvd_end (r : Nat) (hr : r < 1000000) (hq : ∃ q, r = q * 10 ^ (6 - 0)) : r = 0 := by
 obtain ⟨q, hq⟩ := hq
 rw [show 10 ^ (6 - 0) = 1000000 from rfl] at hq
 omega

theorem strip_P (k : Nat) : ∀ r, r < 1000000 → k ≤ 6 → (∃ q, r = q * 10 ^ (6 - k)) → strip (P k r) = frL k r := by
 induction k with
 | zero => intro r _ _ _; rfl
 | succ k ih =>
  intro r hr hk hq
  by_cases h0 : r = 0
  ·subst h0
   rw [strip_P0]; unfold frL; rw [if_pos rfl]
  ·unfold P frL
   rw [if_neg h0]
   obtain ⟨q, hq⟩ := hq
   have hq' : ∃ q', r % 100000 * 10 = q' * 10 ^ (6 - k) := by
    have e : 6 - k = (6 - (k + 1)) + 1 := by omega
    have hd : 10 ^ (6 - (k + 1)) ∣ 100000 := by
     rw [show (100000 : Nat) = 10 ^ 5 from rfl]; exact Nat.pow_dvd_pow 10 (by omega)
    obtain ⟨d, hd⟩ := hd
    have hm : r % 100000 = (q % d) * 10 ^ (6 - (k + 1)) := by
     rw [hq, hd, Nat.mul_comm q, Nat.mul_mod_mul_left, Nat.mul_comm]
    exact ⟨q % d, by rw [hm, e, Nat.pow_succ, Nat.mul_assoc]⟩
   have hi := ih (r % 100000 * 10) (by omega) (by omega) hq'
   rw [← hi]
   refine strip_keep _ _ ?_
   by_cases hs : strip (P k (r % 100000 * 10)) = []
   ·right
    intro hc
    have hz := (ofNat48 (r / 100000) (by omega)).1 hc
    rw [hi] at hs
    rcases frL_nil _ _ hs with h | h
    ·subst h
     rw [show 6 - (0 + 1) = 5 from rfl, show 10 ^ 5 = 100000 from rfl] at hq
     omega
    ·omega
   ·left; exact hs

theorem nDigits7 (r : Nat) (h : r < 1000000) : nDigits (1000000 + r) = 7 := nDigits_unique 6 _ (by omega) (by omega)

theorem pad6 (r : Nat) (h : r < 1000000) : (decDigits (1000000 + r)).drop 1 = P 6 r := by
 rw [decDigits_eq, nDigits7 r h]
 simp only [List.range, List.range.loop, List.map, List.drop, P, dg]
 rw [show 10 ^ (7 - 1 - 1) = 100000 from rfl, show 10 ^ (7 - 1 - 2) = 10000 from rfl, show 10 ^ (7 - 1 - 3) = 1000 from rfl, show 10 ^ (7 - 1 - 4) = 100 from rfl, show 10 ^ (7 - 1 - 5) = 10 from rfl, show 10 ^ (7 - 1 - 6) = 1 from rfl]
 rw [show (1000000 + r) / 100000 % 10 = r / 100000 by omega, show (1000000 + r) / 10000 % 10 = r % 100000 * 10 / 100000 by omega,
  show (1000000 + r) / 1000 % 10 = r % 100000 * 10 % 100000 * 10 / 100000 by omega,
  show (1000000 + r) / 100 % 10 = r % 100000 * 10 % 100000 * 10 % 100000 * 10 / 100000 by omega,
  show (1000000 + r) / 10 % 10 = r % 100000 * 10 % 100000 * 10 % 100000 * 10 % 100000 * 10 / 100000 by omega,
  show (1000000 + r) / 1 % 10 = r % 100000 * 10 % 100000 * 10 % 100000 * 10 % 100000 * 10 % 100000 * 10 / 100000 by omega]

theorem frac_eq (r : Nat) (h : r < 1000000) : frac r = frL 6 r := by
 unfold frac
 rw [pad6 r h]
 exact strip_P 6 r h (by omega) ⟨r, by simp⟩

theorem nDigits_bd (k : Nat) : ∀ u, u < 10 ^ k → nDigits u ≤ max 1 k := by
 induction k with
 | zero =>
  intro u h
  have : u = 0 := by omega
  subst this
  rw [nDigits_small (by omega)]; omega
 | succ k ih =>
  intro u h
  by_cases h10 : u < 10
  ·rw [nDigits_small h10]; omega
  ·rw [nDigits_big h10]
   have h2 := ih (u / 10) (by rw [Nat.pow_succ] at h; omega)
   have hk : 1 ≤ k := by
    apply Nat.lt_of_not_le; intro g
    have : k = 0 := by omega
    subst this
    omega
   omega

theorem frL_short (k : Nat) : ∀ m r, r < 1000000 → k ≤ 6 → (∃ q, r = q * 10 ^ (6 - k)) → (frL m r).length ≤ k := by
 induction k with
 | zero =>
  intro m r hr _ hq
  have := dvd_end r hr hq
  subst this
  cases m with
  | zero => simp [frL]
  | succ m => simp [frL]
 | succ k ih =>
  intro m r hr hk hq
  cases m with
  | zero => simp [frL]
  | succ m =>
   rw [frL]
   split
   ·simp
   ·have := ih m (r % 100000 * 10) (by omega) (by omega) (dvd_step k r hk hq)
    simp; omega

theorem fin_ok (neg : Bool) (h p : List UInt8) (v : Int) (hv : fin neg h p = (v, 0)) : val h ≤ 1000000000000 ∧ ¬ (val h = 1000000000000 ∧ strip p ≠ []) ∧ (strip p).length ≤ 6 ∧ v = (if neg then -((val h * 1000000 + val (strip p) * 10 ^ (6 - (strip p).length) : Nat) : Int) else ((val h * 1000000 + val (strip p) * 10 ^ (6 - (strip p).length) : Nat) : Int)) := by
 unfold fin at hv
 by_cases hc : val h ≤ 1000000000000 ∧ ¬ (val h = 1000000000000 ∧ strip p ≠ []) ∧ (strip p).length ≤ 6
 ·rw [if_pos hc] at hv
  exact ⟨hc.1, hc.2.1, hc.2.2, ((Prod.mk.inj hv).1).symm⟩
 ·rw [if_neg hc] at hv
  have := (Prod.mk.inj hv).2
  cases this

theorem fin_err (neg : Bool) (h p : List UInt8) : (fin neg h p).2 = 0 ∨ fin neg h p = (0, 2) := by
 unfold fin
 split
 ·left; rfl
 ·right; rfl

theorem parseT_err (neg : Bool) (t : List UInt8) : (parseT neg t).2 = 0 ∨ (parseT neg t).1 = 0 := by
 rw [parse_form]
 split
 ·right; rfl
 ·rcases fin_err neg (str.cut1 46 t).1 (str.cut1 46 t).2.1 with h | h
  ·left; exact h
  ·right; rw [h]

theorem show_len (n : Int) (h q : List UInt8) (neg : Bool) (hq : allDig q = true) (hd : allDig h = true) (hl : q.length ≤ 6)
  (hn : n = (if neg then -((val h * 1000000 + val q * 10 ^ (6 - q.length) : Nat) : Int) else ((val h * 1000000 + val q * 10 ^ (6 - q.length) : Nat) : Int))) :
  (showS n).length ≤ (if neg then 1 else 0) + max 1 h.length + (if q = [] then 0 else 1 + q.length) := by
 have hvq := val_lt q hq
 have hr : val q * 10 ^ (6 - q.length) < 1000000 := by
  have h1 : val q * 10 ^ (6 - q.length) < 10 ^ q.length * 10 ^ (6 - q.length) := Nat.mul_lt_mul_of_pos_right hvq (Nat.pow_pos (by decide))
  rw [← Nat.pow_add, show q.length + (6 - q.length) = 6 by omega] at h1
  exact h1
 have hs := frL_short q.length 6 (val q * 10 ^ (6 - q.length)) hr hl ⟨val q, rfl⟩
 generalize hrr : val q * 10 ^ (6 - q.length) = r at *
 have hu : n.natAbs = val h * 1000000 + r := by rw [hn]; split <;> omega
 have h1 : n.natAbs / 1000000 = val h := by omega
 have h2 : n.natAbs % 1000000 = r := by omega
 have hD : (decDigits (val h)).length ≤ max 1 h.length := by
  rw [decDigits_length]; exact nDigits_bd _ _ (val_lt h hd)
 have hneg : (if n < 0 then [45] else ([] : List UInt8)).length ≤ (if neg then 1 else 0) := by
  cases neg with
  | true => rw [if_pos (rfl : true = true)]; split <;> simp
  | false =>
   have h0 : ¬ n < 0 := by rw [hn, if_neg (by decide)]; omega
   rw [if_neg h0]; simp
 unfold showS
 rw [h1, h2]
 by_cases h0 : r = 0
 ·rw [if_pos h0, List.length_append]; omega
 ·rw [if_neg h0, List.length_append, List.length_append, List.length_cons, frac_eq r hr]
  have : q ≠ [] := by
   rintro rfl
   rw [val_nil, Nat.zero_mul] at hrr
   exact h0 hrr.symm
  rw [if_neg this]; omega

theorem normal (l : List UInt8) (h : (parseS l).2 = 0) : (parseS l).1.natAbs ≤ 1000000000000000000 ∧ (showS (parseS l).1).length ≤ l.length + 1 := by
 obtain ⟨neg, hneg⟩ : ∃ b, b = negB l := ⟨_, rfl⟩
 have hp : parseS l = parseT neg (unsigned l) := by unfold parseS; rw [hneg]
 have hul : (unsigned l).length + (if neg then 1 else 0) ≤ l.length := by
  rw [hneg]
  cases l with
  | nil => simp [unsigned, negB]
  | cons c r =>
   by_cases hc : c = 45
   ·subst hc; simp [unsigned, negB]
   ·simp [unsigned, negB, hc]
 generalize unsigned l = t at *
 rw [hp] at h ⊢
 rw [parse_form] at h ⊢
 by_cases hb : badB t = true
 ·rw [if_pos hb] at h; cases h
 ·rw [if_neg hb] at h ⊢
  have hbd := bad_dig t (by simpa using hb)
  have hbf : badB t = false := by simpa using hb
  rcases hf : fin neg (str.cut1 46 t).1 (str.cut1 46 t).2.1 with ⟨v, e⟩
  rw [hf] at h
  simp only at h ⊢
  subst h
  obtain ⟨h1, h2, h3, h4⟩ := fin_ok _ _ _ _ hf
  have hsl := strip_le (str.cut1 46 t).2.1
  have hq := strip_dig _ hbd.2
  have hlen := show_len v _ _ neg hq hbd.1 h3 h4
  have hvq := val_lt _ hq
  have hr : val (strip (str.cut1 46 t).2.1) * 10 ^ (6 - (strip (str.cut1 46 t).2.1).length) < 1000000 := by
   have g1 : val (strip (str.cut1 46 t).2.1) * 10 ^ (6 - (strip (str.cut1 46 t).2.1).length) < 10 ^ (strip (str.cut1 46 t).2.1).length * 10 ^ (6 - (strip (str.cut1 46 t).2.1).length) := Nat.mul_lt_mul_of_pos_right hvq (Nat.pow_pos (by decide))
   rw [← Nat.pow_add, show (strip (str.cut1 46 t).2.1).length + (6 - (strip (str.cut1 46 t).2.1).length) = 6 by omega] at g1
   exact g1
  have hv0 : strip (str.cut1 46 t).2.1 = [] → val (strip (str.cut1 46 t).2.1) * 10 ^ (6 - (strip (str.cut1 46 t).2.1).length) = 0 := by
   intro g; rw [g, val_nil, Nat.zero_mul]
  clear hvq hq hbd hb hbf hf
  generalize val (strip (str.cut1 46 t).2.1) * 10 ^ (6 - (strip (str.cut1 46 t).2.1).length) = r at *
  generalize val (str.cut1 46 t).1 = a at *
  constructor
  ·have hva : v.natAbs = a * 1000000 + r := by
    rw [h4]
    cases neg with
    | true => rw [if_pos (rfl : true = true), Int.natAbs_neg]; rfl
    | false => rw [if_neg (by decide)]; rfl
   rw [hva]
   clear h4 hva hlen hul
   by_cases hm : a = 1000000000000
   ·have hq0 : strip (str.cut1 46 t).2.1 = [] := by
     apply Classical.byContradiction; intro g; exact h2 ⟨hm, g⟩
    have h0 := hv0 hq0
    rw [hm, h0]
    decide
   ·have h5 : a + 1 ≤ 1000000000000 := by clear hr hv0 h3 hsl; omega
    clear h1 h2 hm h3 hsl hv0
    have h6 : (a + 1) * 1000000 ≤ 1000000000000 * 1000000 := Nat.mul_le_mul_right _ h5
    rw [Nat.add_mul] at h6
    exact Nat.le_trans (Nat.add_le_add_left (Nat.le_of_lt hr) _) (by simpa using h6)
  ·have hcut : (str.cut1 46 t).1.length + (if (str.cut1 46 t).2.2 = true then 1 + (str.cut1 46 t).2.1.length else 0) ≤ t.length := by
    rcases str.cut1_spec 46 t with ⟨g1, g2, _⟩ | ⟨g1, g2, g3, _⟩
    ·rw [g1, if_pos rfl]
     have := congrArg List.length g2
     simp at this; omega
    ·rw [g1, g2]; simp
   have hp2 : (str.cut1 46 t).2.2 = false → (str.cut1 46 t).2.1 = [] := by
    intro g
    rcases str.cut1_spec 46 t with ⟨g1, _, _⟩ | ⟨_, _, g3, _⟩
    ·rw [g] at g1; cases g1
    ·exact g3
   cases hpt : (str.cut1 46 t).2.2 with
   | true =>
    rw [hpt, if_pos rfl] at hcut
    split at hlen <;> split at hlen <;> rename_i g1 g2 <;> simp [g1] at hul <;> omega
   | false =>
    have := hp2 hpt
    rw [hpt] at hcut
    rw [this] at hlen
    simp [strip] at hlen hcut
    split at hlen <;> rename_i g1 <;> simp [g1] at hul <;> omega

end Go.Proofs.YtkhlfggnjcbniaaGreatDoor.num
namespace Go.Proofs.YtkhlfggnjcbniaaGreatDoor.mom
open Go.Lib num cal days
theorem part1 (l : List UInt8) : partP 1 l = dateP l := rfl
theorem part2 (l : List UInt8) : partP 2 l = monthP l := rfl
theorem part3 (l : List UInt8) : partP 3 l = weekP l := rfl
theorem part4 (l : List UInt8) : partP 4 l = timeP l := rfl
theorem part5 (l : List UInt8) : partP 5 l = localP l := rfl

theorem parse_cases (kind : Int) (l : List UInt8) : ((parseM kind l).2 ≠ 0 ∧ (parseM kind l).1 = 0) ∨ (1 ≤ kind ∧ kind ≤ 5 ∧ (parseM kind l).2 = 0 ∧ partP kind l = some ((parseM kind l).1, [])) := by
 unfold parseM
 by_cases h : kind < 1 ∨ 5 < kind
 ·rw [if_pos h]; left; exact ⟨by decide, rfl⟩
 ·rw [if_neg h]
  cases hw : whole (partP kind l) with
  | none => left; exact ⟨by decide, rfl⟩
  | some v => right; exact ⟨by omega, by omega, rfl, whole_some hw⟩

theorem date_range (l : List UInt8) (v : Int) (r : List UInt8) (h : dateP l = some (v, r)) : ∃ d, v = d * 86400000 ∧ -719162 ≤ d ∧ d ≤ 100000109 := by
 obtain ⟨y, m, d, r1, r2, r3, r4, h1, h2, h3, h4, h5, h6, rfl⟩ := dateP_form l v r h
 obtain ⟨ds, _, _, _, y1, y2⟩ := yearR_some l y r1 h1
 have ok := (dOk_iff y m d y1 y2).1 h6
 obtain ⟨o1, o2, o3, o4, o5, o6⟩ := ok
 have hy := num_year (y : Int) m d ⟨o3, o4, o5, o6⟩
 have b1 : newY 1 ≤ newY y := by
  rcases Int.lt_or_eq_of_le o1 with k | k
  ·exact Int.le_of_lt (newY_mono _ _ k)
  ·rw [← k]; exact Int.le_refl _
 have b2 : newY (y + 1) ≤ newY 275761 := by
  rcases Int.lt_or_eq_of_le (show (y : Int) + 1 ≤ 275761 by omega) with k | k
  ·exact Int.le_of_lt (newY_mono _ _ k)
  ·rw [k]; exact Int.le_refl _
 have e1 : newY 1 = -719162 := by decide
 have e2 : newY 275761 = 100000110 := by decide
 exact ⟨_, rfl, by omega, by omega⟩

theorem thou_range (l : List UInt8) (p : Nat) (r : List UInt8) (h : thou l = some (p, r)) : p < 1000 := by
 unfold thou at h
 simp only [] at h
 split at h
 ·cases h
 ·cases h
  have hv := val_lt _ (allDig_take l (min (cnt l) 3) (by omega))
  have hlen : (l.take (min (cnt l) 3)).length = min (cnt l) 3 := by rw [List.length_take]; have := cnt_le l; omega
  rw [hlen] at hv
  have : min (cnt l) 3 = 1 ∨ min (cnt l) 3 = 2 ∨ min (cnt l) 3 = 3 := by omega
  rcases this with e | e | e <;> rw [e] at hv ⊢ <;> simp at hv ⊢ <;> omega

theorem time_range (l : List UInt8) (v : Int) (r : List UInt8) (h : timeP l = some (v, r)) : 0 ≤ v ∧ v < 86400000 := by
 unfold timeP at h
 split at h
 ·cases h
 ·rename_i hh r1 e1
  split at h
  ·cases h
  ·split at h
   ·cases h
   ·rename_i m r3 e3
    split at h
    ·rename_i g
     have g' : hh < 24 ∧ m < 60 := by simpa using g
     unfold minT at h
     split at h
     ·unfold secP at h
      split at h
      ·cases h
      ·rename_i s r5 e5
       split at h
       ·rename_i gs
        unfold secT at h
        split at h
        ·split at h
         ·cases h
         ·rename_i p r7 e7
          have := thou_range _ _ _ e7
          cases h
          omega
        ·cases h; omega
       ·cases h
     ·cases h; omega
    ·cases h

end Go.Proofs.YtkhlfggnjcbniaaGreatDoor.mom
namespace Go.Proofs.YtkhlfggnjcbniaaGreatDoor.mom
open Go.ChangeShapes Go.WideShapes Go.ChangeAt Go.RowKit Go.Lib num days cal
theorem parse64 (kind : Int) (l : List UInt8) : int64 (parseM kind l).1 := by
 rcases parse_cases kind l with ⟨_, h⟩ | ⟨h1, h2, _, h4⟩
 ·rw [h]; exact ⟨by decide, by decide⟩
 ·generalize (parseM kind l).1 = n at *
  have hkk : kind = 1 ∨ kind = 2 ∨ kind = 3 ∨ kind = 4 ∨ kind = 5 := by omega
  rcases hkk with rfl | rfl | rfl | rfl | rfl
  ·rw [part1] at h4
   obtain ⟨d, rfl, d1, d2⟩ := date_range l n [] h4
   exact ⟨by omega, by omega⟩
  ·rw [part2] at h4
   obtain ⟨y, m, r1, r2, k1, k2, k3, k4, k5⟩ := monthP_form l n [] h4
   obtain ⟨ds, _, _, _, y1, y2⟩ := yearR_some l y r1 k1
   exact ⟨by omega, by omega⟩
  ·rw [part3] at h4
   obtain ⟨y, w, r1, r2, k1, k2, k3, k4, k5⟩ := weekP_form l n [] h4
   obtain ⟨ds, _, _, _, y1, y2⟩ := yearR_some l y r1 k1
   have := firstW_bound (y : Int) (by omega) (by omega)
   have hw := two_lt _ _ _ k3
   exact ⟨by omega, by omega⟩
  ·rw [part4] at h4
   have := time_range l n [] h4
   exact ⟨by omega, by omega⟩
  ·rw [part5] at h4
   obtain ⟨d, r1, c, r2, t, k1, k2, k3, k4, k5⟩ := localP_form l n [] h4
   obtain ⟨d', rfl, d1, d2⟩ := date_range l d r1 k1
   have := time_range _ _ _ k4
   exact ⟨by omega, by omega⟩

end Go.Proofs.YtkhlfggnjcbniaaGreatDoor.mom
namespace Go.Proofs.YtkhlfggnjcbniaaGreatDoor.num
open Go.Lib

theorem parse_bd (l : List UInt8) : -1000000000000000000 ≤ (parseS l).1 ∧ (parseS l).1 ≤ 1000000000000000000 ∧ 0 ≤ (parseS l).2 ∧ (parseS l).2 ≤ 2 := by
 by_cases h : (parseS l).2 = 0
 ·have := (normal l h).1; omega
 ·have h1 : (parseS l).1 = 0 := by
   rcases parseT_err (negB l) (unsigned l) with g | g
   ·exact absurd g h
   ·exact g
  rw [h1]
  refine ⟨by decide, by decide, ?_⟩
  unfold parseS
  rw [parse_form]
  split
  ·simp
  ·rcases fin_err (negB l) (str.cut1 46 (unsigned l)).1 (str.cut1 46 (unsigned l)).2.1 with g | g
   ·rw [g]; simp
   ·rw [g]; simp

end Go.Proofs.YtkhlfggnjcbniaaGreatDoor.num
namespace Go.Proofs.YtkhlfggnjcbniaaGreatDoor.num
open Go.ChangeShapes Go.WideShapes Go.ChangeAt Go.RowKit Go.Lib

theorem trim_digits (l : List UInt8) (hl : l.length ≤ 1000000000) (w : World) :
  Calls Tryz.prog 95 #[.string ⟨l.toArray⟩, .string ⟨#[48, 49, 50, 51, 52, 53, 54, 55, 56, 57]⟩] w fun e w' => e = .returned (.string ⟨(trimS l digs).toArray⟩) ∧ Below w.heap.size w w' :=
 Any.strings_Trim_laid Tryz.lays160 (by kernel_rfl) ⟨l.toArray⟩ ⟨#[48, 49, 50, 51, 52, 53, 54, 55, 56, 57]⟩ w (by rw [bsize]; omega) (by decide) (ascii_of_all (by decide))

theorem ret_bool {a b : Bool} (h : a = b) : Ending.returned (.bool a) = .returned (.bool b) := by rw [h]

theorem digb_any (l : List UInt8) (hl : l.length ≤ 1000000000) (w : World) :
  Calls Tryz.prog 260 #[.string ⟨l.toArray⟩] w fun e w' => e = .returned (.bool (digB l)) ∧ Below w.heap.size w w' := by
 have ht := trim_digits l hl w
 have hq := trim_digs l
 cases l with
 | nil =>
  clear ht hq
  go_enter Tryz.func260, Tryz.ntmps260
  go_wp2_with fail
  go_ret
  exact ⟨rfl, Below.refl _ _⟩
 | cons c r =>
  have HQ := Lib.hid hq
  clear hq
  generalize trimS (c :: r) digs = x at ht HQ
  have HX : Hid (digB (c :: r) = (x == [])) := Lib.hid (by
   have := HQ.out
   unfold digB
   rw [Bool.eq_iff_iff]
   simp [this])
  go_enter Tryz.func260, Tryz.ntmps260
  go_wp2_with fail
  refine ht.mono ?_
  rintro e w' ⟨rfl, hB⟩
  clear ht
  cases x with
  | nil =>
   go_wp2_with fail
   go_ret
   exact ⟨ret_bool (by rw [HX.out]; rfl), hB⟩
  | cons a b =>
   go_wp2_with fail
   go_ret
   exact ⟨ret_bool (by rw [HX.out]; rfl), hB⟩
end Go.Proofs.YtkhlfggnjcbniaaGreatDoor.num
namespace Go.Proofs.YtkhlfggnjcbniaaGreatDoor.doc
open atr link

theorem kind_fieldset (nm : List UInt8) (a : List Attr) : kindP nm a = 29 ↔ nm = elemNames[1] := kind_elem nm a 1 (by decide)
theorem kind_form (nm : List UInt8) (a : List Attr) : kindP nm a = 30 ↔ nm = elemNames[2] := kind_elem nm a 2 (by decide)
theorem kind_legend (nm : List UInt8) (a : List Attr) : kindP nm a = 34 ↔ nm = elemNames[6] := kind_elem nm a 6 (by decide)
def fsB (l : List Nd) (f : Int) : Bool := kN l f == 29 && hasA nDisabled (nd l f).attrs
def lgB (l : List Nd) (k : Int) : Bool := kN l k == 34
def disR (l : List Nd) (k : Int) : Bool := (subP (kN l k) || kN l k == 29) && (hasA nDisabled (nd l k).attrs || disU l (fsB l) (lgB l) k)
def fixR (l : List Nd) (k : Int) : Bool := disR l k || (roP (kN l k) && hasA nReadonly (nd l k).attrs)
def pushR (k : Int) : Bool := decide (k = 1 ∨ k = 21 ∨ k = 22 ∨ k = 26 ∨ k = 27)
def barR (l : List Nd) (k : Int) : Bool := pushR (kN l k) || !subP (kN l k) || fixR l k || decide (0 ≤ nearP l k nDatalist)
def barP (l : List Nd) (k : Int) : Bool := !(decide (0 ≤ k) && decide (k < (l.length : Int)) && rightB l) || barR l k
theorem fsB_name (l : List Nd) (f : Int) : fsB l f = (decide ((nd l f).name = elemNames[1]) && hasA nDisabled (nd l f).attrs) := by
 unfold fsB kN
 congr 1
 rw [Bool.eq_iff_iff, beq_iff_eq, decide_eq_true_eq]
 exact kind_fieldset _ _
theorem lgB_name (l : List Nd) (k : Int) : lgB l k = decide ((nd l k).name = elemNames[6]) := by
 unfold lgB kN
 rw [Bool.eq_iff_iff, beq_iff_eq, decide_eq_true_eq]
 exact kind_legend _ _
theorem dis_ref {l : List Nd} (h : rightB l = true) (k : Int) (hk : inR l k) : disU l (fsB l) (lgB l) k =
  (List.range l.length).any (fun i => decide ((nd l (i : Int)).name = elemNames[1]) && hasA nDisabled (nd l (i : Int)).attrs && withinP l k (i : Int) && !sparedP l (fun x => decide ((nd l x).name = elemNames[6])) k (i : Int)) := by
 rw [dis_all (right_rt l h) _ _ k hk]
 have e : lgB l = fun x => decide ((nd l x).name = elemNames[6]) := funext (lgB_name l)
 rw [e]
 congr 1
 funext i
 rw [fsB_name]
end Go.Proofs.YtkhlfggnjcbniaaGreatDoor.doc
