/- What every contract asks of the world: the library's variables that are read hold what they were laid with (or some number); and that this is kept by whatever leaves the old blocks as they are. Attributes: the first of a name: plain. No program in sight. Documents: nodes; which documents are right: plain. No program in sight. Small facts on bytes. The contract of the reference's Lower. The contract of text.Lower. Kinds of elements: plain. Right documents: going up ends; a node and what is within it, in order; a select's options: plain. Plain laws on strings as lists of bytes: strings.Cut at one byte. No program in sight. Texts without ends of lines, without blanks at the ends: plain. No program in sight. One blank for each run of blanks: the two ways to do it: plain. What a control has: plain. Plain laws on numbers as texts: what number.Parse, number.Show and the reference's Parse, Show compute, and that they agree. No program in sight. Options, and which of them are selected: plain. Options, and which of them are selected: the laws: plain. A region that draws its order, in a round of a range over a function: as anywhere, if it has no defer statement. -/
import Derived.Test.YtoajgfhcongocaaGreatDoorRows
import Derived.WalkKit
import Derived.ProofKit
import Derived.WalkSmall
import Derived.Lib.ItoaMem
import Derived.Lib.Hide
import Derived.WalkSpells
import Derived.Deep.MidRow
import Derived.Laws.IdiomStrings
import Derived.Laws.BytesArg
import Derived.Lib.IndexMore
import Derived.Lib.IndexBytes
import Derived.Lib.Strings
import Derived.Lib.Replace
import Derived.Lib.SlTrimSet
import Derived.Lib.ItoaNum
import Derived.RangeFuncCalls
import Derived.OrdersIn
import Derived.TacticsIn
import Derived.Shelf.RegionOpen
namespace Go.Proofs.YtoajgfhcongocaaGreatDoor
open Go.RowKit

/-- The library's variables, as far as they are read: a number, and the powers of ten. -/
structure G (w : World) : Prop where
  ml : ∃ m, w.cell? ⟨2, 0, none⟩ = some (.int .i64 m)
  p10 : Lib.TabIs Tryz.prog w "internal/strconv.uint64pow10" .u64 Lib.pow10Tab
/-- .. and the two errors. -/
structure GE (w : World) : Prop where
  er : ∃ ev, w.cell? ⟨1, 0, none⟩ = some ev ∧ (ev = .nilIface ∨ ∃ te pe, ev = .iface te pe)
  es : ∃ ev, w.cell? ⟨0, 0, none⟩ = some ev ∧ (ev = .nilIface ∨ ∃ te pe, ev = .iface te pe)

theorem gPow : Tryz.prog.globalNamed "internal/strconv.uint64pow10" = some 5 := by kernel_rfl

theorem lt_of_cell {w : World} {b o : Nat} {v : Value} (h : w.cell? ⟨b, o, none⟩ = some v) : b < w.heap.size := by
  apply Nat.lt_of_not_le; intro g
  simp [World.cell?, Array.getElem?_eq_none g] at h

theorem lt_of_var {P : Program} {w : World} {n : String} {g : Nat} {cs : Array Value} (hg : P.globalNamed n = some g) (hv : w.var? P n = some cs) : g < w.heap.size := by
  apply Nat.lt_of_not_le; intro h
  unfold World.var? at hv
  simp [hg, Array.getElem?_eq_none h] at hv

theorem cell_below {w w' : World} (h : Below w.heap.size w w') {b o : Nat} {v : Value} (hc : w.cell? ⟨b, o, none⟩ = some v) : w'.cell? ⟨b, o, none⟩ = some v := by
  rw [h.cell (lt_of_cell hc)]; exact hc

theorem G.below {w w' : World} (h : G w) (hb : Below w.heap.size w w') : G w' where
  ml := h.ml.elim fun m hm => ⟨m, cell_below hb hm⟩
  p10 := var?_below hb gPow (lt_of_var gPow h.p10) h.p10
theorem GE.below {w w' : World} (h : GE w) (hb : Below w.heap.size w w') : GE w' where
  er := h.er.elim fun ev he => ⟨ev, cell_below hb he.1, he.2⟩
  es := h.es.elim fun ev he => ⟨ev, cell_below hb he.1, he.2⟩
theorem below_trans {a b c : World} (h : Below a.heap.size a b) (k : Below b.heap.size b c) : Below a.heap.size a c := h.trans (k.mono h.size)

/-- strings joined -/
theorem bapp0 (a b : Array UInt8) : (⟨a⟩ : ByteArray) ++ ⟨b⟩ = ⟨a ++ b⟩ := by
  apply ByteArray.ext
  rw [ByteArray.data_append]
@[go_sem] theorem bapp (a b : List UInt8) : (⟨a.toArray⟩ : ByteArray) ++ ⟨b.toArray⟩ = ⟨(a ++ b).toArray⟩ := by rw [bapp0]; simp
@[go_sem] theorem bapp1 (c : UInt8) (b : List UInt8) : (⟨#[c]⟩ : ByteArray) ++ ⟨b.toArray⟩ = ⟨(c :: b).toArray⟩ := by rw [bapp0]; simp
@[go_sem] theorem bapp2 (a : List UInt8) (c : UInt8) : (⟨a.toArray⟩ : ByteArray) ++ ⟨#[c]⟩ = ⟨(a ++ [c]).toArray⟩ := by rw [bapp0]; simp

/-- a piece of a string -/
@[go_sem] theorem bext (x : List UInt8) (a b : Nat) : (⟨x.toArray⟩ : ByteArray).extract a b = ⟨((x.drop a).take (b - a)).toArray⟩ := by rw [ByteArray.extract_mk]
@[go_sem] theorem take_drop_all (x : List UInt8) (a : Nat) : (x.drop a).take (x.length - a) = x.drop a := List.take_of_length_le (by simp)

@[go_sem] theorem take_tail_all (x : List UInt8) : x.tail.take (x.length - 1) = x.tail := List.take_of_length_le (by simp)

theorem bsize (x : List UInt8) : (⟨x.toArray⟩ : ByteArray).size = x.length := rfl

/-- 'string([]byte{c})' -/
theorem conv1 (w : World) (n : Int) (c : UInt8) (hn : n = (c.toNat : Int)) :
    (convert 92 9 (.slice (some ⟨w.heap.size, 0, none⟩) 1 1)).run Tryz.prog (w.alloc (.cells #[.int .u8 n] 5)) = .ok (.string ⟨#[c]⟩) (w.alloc (.cells #[.int .u8 n] 5)) := by
  have h := run_convert_bytes_back (P := Tryz.prog) (w.alloc (.cells #[.int .u8 n] 5)) 92 9 5 ⟨w.heap.size, 0, none⟩ 1 [c] Tryz.underlying92 Tryz.underlying5 Tryz.underlying9 (fun j hj => by
    have : j = 0 := by simpa using hj
    subst this
    rw [Lib.add_plain, World.cell?_alloc_new]
    simp [hn])
  exact h

/-- a byte by its number -/
theorem byte_of (k : Nat) (hk : k < 256) : ∃ c : UInt8, c = UInt8.ofNat k ∧ (c.toNat : Int) = k := by
  refine ⟨_, rfl, ?_⟩
  simp; omega

end Go.Proofs.YtoajgfhcongocaaGreatDoor

namespace Go.Proofs.YtoajgfhcongocaaGreatDoor.atr

abbrev Attr := List UInt8 × List UInt8
/-- the first of a name: its place (or how many there are), its value -/
def fidx (nm : List UInt8) : List Attr → Nat
  | [] => 0
  | a :: r => if a.1 = nm then 0 else fidx nm r + 1
def fval (nm : List UInt8) : List Attr → Option (List UInt8)
  | [] => none
  | a :: r => if a.1 = nm then some a.2 else fval nm r
def fint (nm : List UInt8) (l : List Attr) : Int := if fidx nm l < l.length then (fidx nm l : Int) else -1

theorem find_ways (nm : List UInt8) (l : List Attr) : (∃ (k : Nat) (h : k < l.length), fidx nm l = k ∧ l[k].1 = nm ∧ (∀ j (hj : j < k), l[j].1 ≠ nm) ∧ fval nm l = some l[k].2) ∨ (fidx nm l = l.length ∧ (∀ j (hj : j < l.length), l[j].1 ≠ nm) ∧ fval nm l = none) := by
  induction l with
  | nil => right; exact ⟨rfl, fun j hj => absurd hj (Nat.not_lt_zero _), rfl⟩
  | cons a r ih =>
    by_cases h : a.1 = nm
    · left
      exact ⟨0, Nat.succ_pos _, by rw [fidx, if_pos h], h, fun j hj => absurd hj (Nat.not_lt_zero _), by rw [fval, if_pos h]; rfl⟩
    · rcases ih with ⟨k, hk, h1, h2, h3, h4⟩ | ⟨h1, h2, h3⟩
      · left
        refine ⟨k + 1, Nat.succ_lt_succ hk, by rw [fidx, if_neg h, h1], h2, ?_, by rw [fval, if_neg h, h4]; rfl⟩
        intro j hj
        cases j with
        | zero => exact h
        | succ j => exact h3 j (by omega)
      · right
        refine ⟨by rw [fidx, if_neg h, h1]; rfl, ?_, by rw [fval, if_neg h, h3]⟩
        intro j hj
        cases j with
        | zero => exact h
        | succ j => exact h2 j (by simpa using hj)

def nMin : List UInt8 := [109, 105, 110]
def nMax : List UInt8 := [109, 97, 120]
def nStep : List UInt8 := [115, 116, 101, 112]
def nValue : List UInt8 := [118, 97, 108, 117, 101]
def nAny : List UInt8 := [97, 110, 121]
def nChecked : List UInt8 := [99, 104, 101, 99, 107, 101, 100]
def nSelected : List UInt8 := [115, 101, 108, 101, 99, 116, 101, 100]
def nMultiple : List UInt8 := [109, 117, 108, 116, 105, 112, 108, 101]
def nDisabled : List UInt8 := [100, 105, 115, 97, 98, 108, 101, 100]
def nSize : List UInt8 := [115, 105, 122, 101]
def nType : List UInt8 := [116, 121, 112, 101]
end Go.Proofs.YtoajgfhcongocaaGreatDoor.atr

namespace Go.Proofs.YtoajgfhcongocaaGreatDoor.doc
open Go.Proofs.YtoajgfhcongocaaGreatDoor.atr

structure Nd where
  name : List UInt8
  text : List UInt8
  attrs : List Attr
  parent : Int
  kids : List Int
instance : Inhabited Nd := ⟨⟨[], [], [], -1, []⟩⟩
def nd (l : List Nd) (k : Int) : Nd := l.getD k.toNat default
theorem nd_cast (l : List Nd) (k : Nat) (h : k < l.length) : nd l k = l[k] := by
  show l.getD (k : Int).toNat default = _
  rw [Int.toNat_natCast, List.getD_eq_getElem?_getD, List.getElem?_eq_getElem h]; rfl

def smallC (c : UInt8) : Bool := decide (97 ≤ c.toNat) && decide (c.toNat ≤ 122)
def digitC (c : UInt8) : Bool := decide (48 ≤ c.toNat) && decide (c.toNat ≤ 57)
def okC (c : UInt8) : Bool := smallC c || digitC c || c == 45
def namedP : List UInt8 → Bool
  | [] => false
  | c :: r => smallC c && r.all okC && decide (r.length + 1 ≤ 20)
def atA (a : List Attr) (i : Nat) : Attr := a.getD i ([], [])
def attrB1 (a : List Attr) (i : Nat) : Bool := namedP (atA a i).1 && decide ((atA a i).2.length ≤ 4000) && fidx (atA a i).1 a == i
def attrsOk (a : List Attr) : Bool := (List.range a.length).all (attrB1 a)
def aloneP (n : Nd) : Bool :=
  if n.name = [] then n.attrs.isEmpty && n.kids.isEmpty && decide (n.text.length ≤ 4000)
  else namedP n.name && n.text.isEmpty && decide (n.attrs.length ≤ 40) && attrsOk n.attrs
def kidB (l : List Nd) (i c : Int) : Bool := decide (0 ≤ c) && decide (c < (l.length : Int)) && decide ((nd l c).parent = i)
def kidsB (l : List Nd) (i : Int) : Bool := (nd l i).kids.all (kidB l i)
def onceB (l : List Nd) (i : Int) : Bool := decide ((nd l i).parent < 0) || (nd l (nd l i).parent).kids.count i == 1
def rangeB (l : List Nd) (i : Int) : Bool := decide (-1 ≤ (nd l i).parent) && decide ((nd l i).parent < (l.length : Int))
def nodeB (l : List Nd) (i : Int) : Bool := aloneP (nd l i) && rangeB l i && onceB l i && kidsB l i
def climb (l : List Nd) : Nat → Int → Int
  | 0, k => k
  | n + 1, k => if k < 0 then k else climb l n (nd l k).parent
def headB (l : List Nd) : Bool := decide (1 ≤ l.length) && decide (l.length ≤ 400) && !(nd l 0).name.isEmpty && decide ((nd l 0).parent = -1)
def nodesB (l : List Nd) : Bool := (List.range l.length).all (fun i => nodeB l i)
def climbsB (l : List Nd) : Bool := (List.range l.length).all (fun i => decide (climb l (l.length + 1) i < 0))
def rightB (l : List Nd) : Bool := headB l && nodesB l && climbsB l

/-- lists without repetition -/
theorem nodup_len : ∀ (a b : List Int), a.Nodup → (∀ x ∈ a, x ∈ b) → a.length ≤ b.length := by
  intro a
  induction a with
  | nil => intro b _ _; exact Nat.zero_le _
  | cons x r ih =>
    intro b hn hs
    have hx : x ∈ b := hs x List.mem_cons_self
    have h1 := ih (b.erase x) (List.nodup_cons.1 hn).2 (fun y hy => by
      have hne : y ≠ x := fun e => (List.nodup_cons.1 hn).1 (e ▸ hy)
      exact (List.mem_erase_of_ne hne).2 (hs y (List.mem_cons_of_mem _ hy)))
    rw [List.length_erase_of_mem hx] at h1
    have : 0 < b.length := List.length_pos_of_mem hx
    simp; omega
theorem nodup_onto (a b : List Int) (ha : a.Nodup) (hs : ∀ x ∈ a, x ∈ b) (hl : b.length ≤ a.length) : ∀ y ∈ b, y ∈ a := by
  intro y hy
  by_cases h : y ∈ a
  · exact h
  · exfalso
    have := nodup_len (y :: a) b (List.nodup_cons.2 ⟨h, ha⟩) (fun x hx => by
      rcases List.mem_cons.1 hx with rfl | hx
      · exact hy
      · exact hs x hx)
    simp at this; omega

theorem sub_flat {α : Type} (a : List α) (f : α → List Int) (x : α) (h : x ∈ a) : (f x).Sublist (a.flatMap f) := by
  induction a with
  | nil => cases h
  | cons y r ih =>
    rw [List.flatMap_cons]
    rcases List.mem_cons.1 h with rfl | h
    · exact List.sublist_append_left _ _
    · exact (ih h).trans (List.sublist_append_right _ _)

/-- the children of the first nodes; how many of the first have a parent -/
def kidsTo (l : List Nd) (i : Nat) : List Int := (List.range i).flatMap (fun j : Nat => (nd l j).kids)
def parTo (l : List Nd) (i : Nat) : List Int := ((List.range i).filter (fun j : Nat => decide (0 ≤ (nd l j).parent))).map (fun j : Nat => (j : Int))
theorem kidsTo_succ (l : List Nd) (i : Nat) : kidsTo l (i + 1) = kidsTo l i ++ (nd l i).kids := by
  unfold kidsTo; rw [List.range_succ, List.flatMap_append]; simp
theorem parTo_succ (l : List Nd) (i : Nat) : (parTo l (i + 1)).length = (parTo l i).length + if 0 ≤ (nd l i).parent then 1 else 0 := by
  unfold parTo
  rw [List.range_succ, List.filter_append, List.map_append, List.length_append]
  by_cases h : 0 ≤ (nd l i).parent
  · rw [if_pos h, List.filter_cons, if_pos (by simpa using h)]; rfl
  · rw [if_neg h, List.filter_cons, if_neg (by simpa using h)]; rfl
theorem mem_kidsTo (l : List Nd) (i : Nat) (c : Int) : c ∈ kidsTo l i ↔ ∃ j : Nat, j < i ∧ c ∈ (nd l j).kids := by
  unfold kidsTo; rw [List.mem_flatMap]
  constructor
  · rintro ⟨j, hj, h⟩; exact ⟨j, List.mem_range.1 hj, h⟩
  · rintro ⟨j, hj, h⟩; exact ⟨j, List.mem_range.2 hj, h⟩
theorem mem_parTo (l : List Nd) (i : Nat) (c : Int) : c ∈ parTo l i ↔ ∃ j : Nat, j < i ∧ c = j ∧ 0 ≤ (nd l j).parent := by
  unfold parTo; rw [List.mem_map]
  constructor
  · rintro ⟨j, hj, rfl⟩
    have := List.mem_filter.1 hj
    exact ⟨j, List.mem_range.1 this.1, rfl, by simpa using this.2⟩
  · rintro ⟨j, hj, rfl, h⟩; exact ⟨j, List.mem_filter.2 ⟨List.mem_range.2 hj, by simpa using h⟩, rfl⟩
theorem parTo_nodup (l : List Nd) (i : Nat) : (parTo l i).Nodup := by
  unfold parTo
  rw [List.Nodup, List.pairwise_map]
  have h : ((List.range i).filter (fun j : Nat => decide (0 ≤ (nd l j).parent))).Nodup := List.Pairwise.filter _ List.nodup_range
  exact h.imp (fun {a b} g e => g (by exact_mod_cast e))

/-- what is so of the children of the first nodes -/
def KidsFine (l : List Nd) (i : Nat) : Prop := ∀ j : Nat, j < i → kidsB l j = true
theorem kid_of (l : List Nd) (i c : Int) (h : kidB l i c = true) : 0 ≤ c ∧ c < (l.length : Int) ∧ (nd l c).parent = i := by
  unfold kidB at h
  rw [Bool.and_eq_true, Bool.and_eq_true, decide_eq_true_eq, decide_eq_true_eq, decide_eq_true_eq] at h
  exact ⟨h.1.1, h.1.2, h.2⟩
theorem kidsB_mem (l : List Nd) (i c : Int) (h : kidsB l i = true) (hc : c ∈ (nd l i).kids) : 0 ≤ c ∧ c < (l.length : Int) ∧ (nd l c).parent = i :=
  kid_of l i c (List.all_eq_true.1 h c hc)

/-- all are met just once: as told by the count -/
theorem met_all (l : List Nd) (hk : KidsFine l l.length) (hn : (kidsTo l l.length).Nodup) (hr : ∀ i : Nat, i < l.length → rangeB l i = true) :
    (parTo l l.length).length = (kidsTo l l.length).length ↔ ∀ i : Nat, i < l.length → onceB l i = true := by
  have hsub : ∀ x ∈ kidsTo l l.length, x ∈ parTo l l.length := by
    intro x hx
    obtain ⟨j, hj, hx⟩ := (mem_kidsTo l _ x).1 hx
    obtain ⟨h1, h2, h3⟩ := kidsB_mem l j x (hk j hj) hx
    refine (mem_parTo l _ x).2 ⟨x.toNat, by omega, by omega, ?_⟩
    rw [show ((x.toNat : Nat) : Int) = x from by omega, h3]; omega
  have hcnt : ∀ (j : Nat) (x : Int), j < l.length → x ∈ (nd l j).kids → (nd l j).kids.count x = 1 := by
    intro j x hj hx
    have hs : (nd l j).kids.Nodup := by
      have : (nd l j).kids.Sublist (kidsTo l l.length) := by
        unfold kidsTo
        exact sub_flat (List.range l.length) (fun j : Nat => (nd l j).kids) j (List.mem_range.2 hj)
      exact hn.sublist this
    exact Nat.le_antisymm (List.nodup_iff_count.1 hs x) (List.count_pos_iff.2 hx)
  constructor
  · intro he i hi
    unfold onceB
    by_cases hp : (nd l i).parent < 0
    · rw [decide_eq_true hp]; rfl
    · have hin := nodup_onto _ _ hn hsub (by omega) (i : Int) ((mem_parTo l _ _).2 ⟨i, hi, rfl, by omega⟩)
      obtain ⟨j, hj, hx⟩ := (mem_kidsTo l _ _).1 hin
      obtain ⟨_, _, h3⟩ := kidsB_mem l j i (hk j hj) hx
      rw [h3, hcnt j i hj hx]; simp
  · intro h
    refine Nat.le_antisymm ?_ (nodup_len _ _ hn hsub)
    refine nodup_len _ _ (parTo_nodup l _) ?_
    intro x hx
    obtain ⟨j, hj, rfl, hp⟩ := (mem_parTo l _ _).1 hx
    have h1 := h j hj
    have h2 := hr j hj
    unfold onceB at h1
    unfold rangeB at h2
    rw [decide_eq_false (by omega)] at h1
    have h1 : (nd l (nd l j).parent).kids.count (j : Int) = 1 := by simpa using h1
    have h2 : (nd l j).parent < (l.length : Int) := by
      rw [Bool.and_eq_true, decide_eq_true_eq, decide_eq_true_eq] at h2; exact h2.2
    refine (mem_kidsTo l _ _).2 ⟨(nd l j).parent.toNat, by omega, ?_⟩
    rw [show (((nd l j).parent.toNat : Nat) : Int) = (nd l j).parent from by omega]
    exact List.count_pos_iff.1 (by omega)
/-- a child that was met is none: some node isn't as it should be -/
theorem met_twice (l : List Nd) (i m : Nat) (hi : i < l.length) (hm : m < (nd l i).kids.length) (hk : KidsFine l i) (c : Int) (hc : (nd l i).kids[m]? = some c)
    (hin : c ∈ kidsTo l i ∨ c ∈ (nd l i).kids.take m) : nodesB l = false := by
  rw [← Bool.not_eq_true]
  intro hall
  have hnode : ∀ j : Nat, j < l.length → nodeB l j = true := fun j hj => List.all_eq_true.1 hall j (List.mem_range.2 hj)
  have hki := hnode i hi
  unfold nodeB at hki
  have hki := (Bool.and_eq_true _ _ ▸ hki).2
  have hcm : c ∈ (nd l i).kids := List.mem_of_getElem? hc
  obtain ⟨h1, h2, h3⟩ := kidsB_mem l i c hki hcm
  rcases hin with hin | hin
  · obtain ⟨j, hj, hx⟩ := (mem_kidsTo l _ _).1 hin
    obtain ⟨_, _, h4⟩ := kidsB_mem l j c (hk j hj) hx
    omega
  · have hkc := hnode c.toNat (by omega)
    rw [show ((c.toNat : Nat) : Int) = c from by omega] at hkc
    unfold nodeB at hkc
    have hoc : onceB l c = true := (Bool.and_eq_true _ _ ▸ (Bool.and_eq_true _ _ ▸ hkc).1).2
    unfold onceB at hoc
    rw [h3, decide_eq_false (by omega)] at hoc
    have hoc : (nd l i).kids.count c = 1 := by simpa using hoc
    have e : (nd l i).kids = (nd l i).kids.take m ++ c :: (nd l i).kids.drop (m + 1) := by
      have e1 := (List.take_append_drop m (nd l i).kids).symm
      rw [List.drop_eq_getElem_cons hm] at e1
      have e2 : (nd l i).kids[m] = c := by rw [List.getElem?_eq_getElem hm] at hc; exact Option.some.inj hc
      rw [e2] at e1
      exact e1
    rw [e, List.count_append, List.count_cons_self] at hoc
    have := List.count_pos_iff.2 hin
    omega
end Go.Proofs.YtoajgfhcongocaaGreatDoor.doc

namespace Go.Proofs.YtoajgfhcongocaaGreatDoor.link
open Go.ChangeShapes Go.WideShapes Go.ChangeAt Go.RowKit Go.Lib

theorem ret_bool {a b : Bool} (h : a = b) : Ending.returned (.bool a) = .returned (.bool b) := by rw [h]
theorem ret_int {k : IntKind} {a b : Int} (h : a = b) : Ending.returned (.int k a) = .returned (.int k b) := by rw [h]

theorem byte_at (l : List UInt8) (i : Nat) (h : i < l.length) : ∃ c rest, l.drop i = c :: rest ∧ l.drop (i + 1) = rest ∧ ∀ h', (⟨l.toArray⟩ : ByteArray)[i]'h' = c :=
  ⟨l[i], l.drop (i + 1), List.drop_eq_getElem_cons h, rfl, fun _ => rfl⟩

theorem byteq (c d : UInt8) (n : Int) (h : (d.toNat : Int) = n) : ((c.toNat : Int) == n) = (c == d) := by
  subst h
  rw [Bool.eq_iff_iff]
  simp only [beq_iff_eq]
  constructor
  · intro h; exact UInt8.toNat_inj.1 (by omega)
  · rintro rfl; rfl

end Go.Proofs.YtoajgfhcongocaaGreatDoor.link

namespace Go.Proofs.YtoajgfhcongocaaGreatDoor.link
open Go.ChangeShapes Go.WideShapes Go.ChangeAt Go.RowKit Go.Lib

def lowC (c : UInt8) : UInt8 := if 65 ≤ c.toNat ∧ c.toNat ≤ 90 then c + 32 else c
def lowS (l : List UInt8) : List UInt8 := l.map lowC
def cellsOf (l : List UInt8) : List Value := l.map fun c => Value.int .u8 c.toNat
theorem lowC_in (c : UInt8) (h : 65 ≤ c.toNat ∧ c.toNat ≤ 90) : ((lowC c).toNat : Int) = (c.toNat : Int) + 32 := by
  unfold lowC
  rw [if_pos h, UInt8.toNat_add]
  have : (32 : UInt8).toNat = 32 := rfl
  rw [this]
  have := c.toNat_lt
  omega
theorem lowC_out (c : UInt8) (h : ¬ (65 ≤ c.toNat ∧ c.toNat ≤ 90)) : lowC c = c := if_neg h
theorem low_step (l : List UInt8) (k : Nat) (c : UInt8) (r : List UInt8) (h : l.drop k = c :: r) : cellsOf (lowS (l.take (k + 1))) = cellsOf (lowS (l.take k)) ++ [.int .u8 (lowC c).toNat] := by
  have hk : k < l.length := by
    have := congrArg List.length h
    simp at this; omega
  have e : l[k] = c := by
    have := List.drop_eq_getElem_cons hk
    rw [h] at this
    exact (List.cons.inj this).1.symm
  rw [List.take_succ_eq_append_getElem hk, e]
  simp [cellsOf, lowS]

theorem own_string (w : World) (base : Nat) (v : Value) (l : List UInt8) (n : Nat) (hn : n = l.length) (h : w.ownsRow base 5 1 v n (cellsOf l)) :
    (convert 92 9 v).run Tryz.prog w = .ok (.string ⟨l.toArray⟩) w := by
  subst hn
  obtain ⟨h1, h | ⟨g, cap, cur, rfl, hg, hh, hc, hm, hs, ht⟩⟩ := h
  · obtain ⟨rfl, h0⟩ := h
    obtain rfl : l = [] := List.length_eq_zero_iff.1 h0
    exact run_convert_bytes_nil w 92 5 Tryz.underlying92 Tryz.underlying5 0 0 9 Tryz.underlying9
  · refine run_convert_bytes_back w _ _ 5 ⟨g, 0, none⟩ cap l Tryz.underlying92 Tryz.underlying5 Tryz.underlying9 ?_
    intro j hj
    have e : cur[j]? = some (.int .u8 (l[j].toNat : Int)) := by
      rw [← Array.getElem?_toList]
      have e2 : (cur.toList.take (l.length * 1))[j]? = (cellsOf l)[j]? := by rw [ht]
      rw [List.getElem?_take, if_pos (by omega)] at e2
      rw [e2]
      simp [cellsOf, hj]
    rw [Addr.add_mid, Nat.zero_add]
    simp [World.cell?, hh, e]

theorem low_rel (w wr w1 : World) (B : Nat) (e : TypeId) (v : Value) (k : Nat) (xs : List Value) (o : Obj) (hown : wr.ownsRow B e 1 v k xs) (hb : Below B w wr) (hbs : B ≤ wr.heap.size) (hg : (wr.alloc o).grownBy w1 v.ownBlock) :
    Below B w w1 ∧ B ≤ w1.heap.size := by
  have hs : (wr.alloc o).heap.size = wr.heap.size + 1 := by simp
  constructor
  · refine Below.grown (hb.alloc hbs o) hg (by omega) ?_
    intro j hj
    obtain ⟨_, ⟨rfl, _⟩ | ⟨g, cap, cur, rfl, hge, _⟩⟩ := hown
    · cases hj
    · cases hj; exact hge
  · have := hg.size; omega

theorem infoU8 : (Tryz.prog.info? 5).map (fun i => (i.zero, i.size, i.bytes)) = some (some (.int .u8 0), 1, 1) := by kernel_rfl

set_option maxHeartbeats 1600000 in
set_option maxRecDepth 100000 in
theorem rlower_any (l : List UInt8) (hl : l.length ≤ 1000000000) (w : World) :
    Calls Tryz.prog 68 #[.string ⟨l.toArray⟩] w fun e w' => e = .returned (.string ⟨(lowS l).toArray⟩) ∧ Below w.heap.size w w' := by
  obtain ⟨i0, hi, hz0, hz1, hz2⟩ := info_parts infoU8
  obtain ⟨B, hB⟩ : ∃ B, B = w.heap.size := ⟨_, rfl⟩
  rw [← hB]
  have HB := Lib.hid hB
  clear hB
  go_enter Tryz.func68, Tryz.ntmps68
  go_wp2_with fail
  go_loopw [3, 4] (fun v i wr => ∃ k : Nat, k ≤ l.length ∧ i = .int .i64 k ∧ wr.ownsRow B 5 1 v k (cellsOf (lowS (l.take k))) ∧ Below B w wr ∧ B ≤ wr.heap.size) (fun _ i _ => l.length - (RowKit.intOf i).toNat)
  case atStart => exact ⟨0, by omega, rfl, World.ownsRow_nil _ _ _ _, by rw [HB.out]; exact Below.refl _ _, by rw [HB.out]; omega⟩
  case round =>
    obtain ⟨k, hk, rfl, hown, hb, hbs⟩ := hrel
    by_cases hlt : k < l.length
    · obtain ⟨c, rest, hd1, hd2, hidx⟩ := byte_at l k hlt
      have HS := Lib.hid (low_step l k c rest hd1)
      have hlt8 := c.toNat_lt
      clear hd1 hd2
      by_cases g : 65 ≤ c.toNat ∧ c.toNat ≤ 90
      · have HL := Lib.hid (lowC_in c g)
        obtain ⟨g1, g2⟩ := g
        go_wp2_with (first
          | (at_builtin; refine wpList_append_own _ rfl _ _ 92 rfl B 5 i0 (.int .u8 0) 1 1 Tryz.underlying92 hi hz0 hz1 hz2 rfl (by decide) _ _ _ rfl (hown.alloc _) ⟨wr.heap.size, 0, none⟩ 1 1 [.int .u8 ((c.toNat : Int) + 32)] rfl rfl ?c1 ?c2 ?c3 ?c4 ?c5 ?_)
          | go_in)
        case c1 => exact cell_one_new _ _ _
        case c2 => intro u hu; simp at hu; subst hu; rfl
        case c3 => unfold maxLen; omega
        case c4 => omega
        case c5 => simp; omega
        · intro v' w1 hown' hgrow _
          have hr := low_rel w wr w1 B _ _ k _ _ hown hb hbs hgrow
          have ho2 : w1.ownsRow B 5 1 v' (k + 1) (cellsOf (lowS (l.take (k + 1)))) := by rw [HS.out, HL.out]; exact hown'
          clear hown' hgrow hown
          go_wp2_with fail
          go_roundw
          case rel => exact ⟨k + 1, by omega, by go_num, ho2, hr.1, hr.2⟩
          case measure => simp [RowKit.intOf]; omega
      · have HL := Lib.hid (lowC_out c g)
        rcases (show c.toNat < 65 ∨ (65 ≤ c.toNat ∧ 90 < c.toNat) by omega) with g1 | ⟨g1, g2⟩
        all_goals
          clear g
          go_wp2_with (first
            | (at_builtin; refine wpList_append_own _ rfl _ _ 92 rfl B 5 i0 (.int .u8 0) 1 1 Tryz.underlying92 hi hz0 hz1 hz2 rfl (by decide) _ _ _ rfl (hown.alloc _) ⟨wr.heap.size, 0, none⟩ 1 1 [.int .u8 (c.toNat : Int)] rfl rfl ?_ ?_ ?_ ?_ ?_ ?_)
            | go_in)
          all_goals first | exact cell_one_new _ _ _ | (show Value.oneCell' _ = true; rfl) | (intro u hu; simp at hu; subst hu; rfl) | (unfold maxLen; omega) | omega | (simp; omega) | skip
          intro v' w1 hown' hgrow _
          have hr := low_rel w wr w1 B _ _ k _ _ hown hb hbs hgrow
          have ho2 : w1.ownsRow B 5 1 v' (k + 1) (cellsOf (lowS (l.take (k + 1)))) := by rw [HS.out, HL.out]; exact hown'
          clear hown' hgrow hown
          go_wp2_with fail
          go_roundw
          case rel => exact ⟨k + 1, by omega, by go_num, ho2, hr.1, hr.2⟩
          case measure => simp [RowKit.intOf]; omega
    · obtain rfl : k = l.length := by omega
      rw [List.take_length] at hown
      have hcv := own_string wr B _ (lowS l) l.length (by simp [lowS]) hown
      clear hown
      go_wp2_with fail
      go_ret
      exact ⟨rfl, hb⟩
end Go.Proofs.YtoajgfhcongocaaGreatDoor.link

namespace Go.Proofs.YtoajgfhcongocaaGreatDoor.link
open Go.ChangeShapes Go.WideShapes Go.ChangeAt Go.RowKit Go.Lib

/-- a block that holds the bytes of a text (a new []byte of a text; its mark lies behind its cells) -/
def Buf (w : World) (G : Nat) (cs : List Value) : Prop :=
  ∃ cur T, w.heap[G]? = some (.cells cur 5 (T, T + 1)) ∧ cur.size = T ∧ cur.toList.take cs.length = cs ∧ cs.length ≤ T

theorem buf_at {cur : Array Value} {cs : List Value} (h : cur.toList.take cs.length = cs) (k : Nat) (hk : k < cs.length) : cur[k]? = cs[k]? := by
  have e : (cur.toList.take cs.length)[k]? = cs[k]? := by rw [h]
  rw [List.getElem?_take, if_pos hk, Array.getElem?_toList] at e
  exact e

theorem buf_cell {w : World} {G : Nat} {cs : List Value} (h : Buf w G cs) (k : Nat) (v : Value) (hv : cs[k]? = some v) : w.cell? ⟨G, k, none⟩ = some v := by
  obtain ⟨cur, T, hh, hs, ht, hl⟩ := h
  have hk : k < cs.length := (List.getElem?_eq_some_iff.1 hv).1
  have := buf_at ht k hk
  simp [World.cell?, hh, this, hv]

theorem buf_frozen {w : World} {G : Nat} {cs : List Value} (h : Buf w G cs) (k : Nat) (hk : k < cs.length) : w.frozen? ⟨G, k, none⟩ = false := by
  obtain ⟨cur, T, hh, hs, ht, hl⟩ := h
  simp [World.frozen?, hh]
  omega

theorem buf_set {w : World} {G : Nat} {cs : List Value} (h : Buf w G cs) (k : Nat) (hk : k < cs.length) (v : Value) : Buf (w.setCell ⟨G, k, none⟩ v) G (cs.set k v) := by
  obtain ⟨cur, T, hh, hs, ht, hl⟩ := h
  have hG : G < w.heap.size := by
    rcases Array.getElem?_eq_some_iff.1 hh with ⟨h, _⟩
    exact h
  refine ⟨cur.setIfInBounds k v, T, ?_, by simp [hs], ?_, by simpa using hl⟩
  · simp [World.setCell, Array.getElem?_modify, hh]
  · rw [List.length_set]
    apply List.ext_getElem?
    intro j
    rw [List.getElem?_take, Array.getElem?_toList, Array.getElem?_setIfInBounds, List.getElem?_set]
    by_cases hj : j < cs.length
    · rw [if_pos hj]
      by_cases e : k = j
      · subst e; rw [if_pos rfl, if_pos rfl, if_pos (by omega), if_pos hk]
      · rw [if_neg e, if_neg e]; exact buf_at ht j hj
    · rw [if_neg hj, if_neg (by omega), List.getElem?_eq_none (by omega)]

theorem buf_new (w : World) (l : List UInt8) (cap : Nat) :
    Buf (w.drew.alloc (.cells (bytesRow ⟨l.toArray⟩ cap) 5 ((bytesRow ⟨l.toArray⟩ cap).size, (bytesRow ⟨l.toArray⟩ cap).size + 1))) w.heap.size (cellsOf l) := by
  refine ⟨bytesRow ⟨l.toArray⟩ cap, (bytesRow ⟨l.toArray⟩ cap).size, ?_, rfl, ?_, by simp [bytesRow, cellsOf]⟩
  · show (w.drew.heap.push _)[w.drew.heap.size]? = _
    simp only [Array.getElem?_push_size]
  · simp [bytesRow, cellsOf]

theorem buf_string {w : World} {G : Nat} {l : List UInt8} (h : Buf w G (cellsOf l)) (cap n : Nat) (hn : n = l.length) :
    (convert 92 9 (.slice (some ⟨G, 0, none⟩) n cap)).run Tryz.prog w = .ok (.string ⟨l.toArray⟩) w := by
  subst hn
  refine run_convert_bytes_back w _ _ 5 ⟨G, 0, none⟩ cap l Tryz.underlying92 Tryz.underlying5 Tryz.underlying9 ?_
  intro j hj
  rw [Addr.add_mid, Nat.zero_add]
  exact buf_cell h j _ (by simp [cellsOf, hj])

def mixS (l : List UInt8) (k : Nat) : List Value := cellsOf (lowS (l.take k) ++ l.drop k)
theorem mix_len (l : List UInt8) (k : Nat) (hk : k ≤ l.length) : (mixS l k).length = l.length := by simp [mixS, cellsOf, lowS]; omega
theorem mix_at (l : List UInt8) (k : Nat) (c : UInt8) (r : List UInt8) (hk : k < l.length) (h : l.drop k = c :: r) : (mixS l k)[k]? = some (.int .u8 c.toNat) := by
  unfold mixS cellsOf lowS
  rw [h, List.getElem?_map, List.getElem?_append_right (by simp; omega)]
  simp [Nat.min_eq_left (Nat.le_of_lt hk)]
theorem mix_step (l : List UInt8) (k : Nat) (c : UInt8) (r : List UInt8) (hk : k < l.length) (h : l.drop k = c :: r) : mixS l (k + 1) = (mixS l k).set k (.int .u8 (lowC c).toNat) := by
  have h1 : l.drop (k + 1) = r := by
    have := congrArg List.tail h
    rwa [List.tail_drop] at this
  have e : l[k] = c := by
    have := List.drop_eq_getElem_cons hk
    rw [h] at this
    exact (List.cons.inj this).1.symm
  unfold mixS
  rw [h, h1, List.take_succ_eq_append_getElem hk, e]
  simp only [cellsOf, lowS, List.map_append, List.map_cons, List.map_nil, List.append_assoc, List.cons_append, List.nil_append]
  rw [List.set_append_right _ _ (by simp; omega)]
  simp [Nat.min_eq_left (Nat.le_of_lt hk)]
theorem mix_same (l : List UInt8) (k : Nat) (c : UInt8) (r : List UInt8) (hk : k < l.length) (h : l.drop k = c :: r) (g : lowC c = c) : mixS l (k + 1) = mixS l k := by
  rw [mix_step l k c r hk h, g]
  exact List.ext_getElem? fun j => by
    rw [List.getElem?_set]
    by_cases e : k = j
    · subst e; rw [if_pos rfl, if_pos (by rw [mix_len l k (by omega)]; omega), mix_at l k c r hk h]
    · rw [if_neg e]

set_option maxHeartbeats 1600000 in
set_option maxRecDepth 100000 in
theorem tlower_any (l : List UInt8) (hl : l.length ≤ 1000000000) (w : World) :
    Calls Tryz.prog 79 #[.string ⟨l.toArray⟩] w fun e w' => e = .returned (.string ⟨(lowS l).toArray⟩) ∧ Below w.heap.size w w' := by
  have hcv := run_bytes_of_string (P := Tryz.prog) w 9 92 5 ⟨l.toArray⟩ Tryz.underlying9 Tryz.underlying92 Tryz.underlying5
  generalize grownCap w (⟨l.toArray⟩ : ByteArray).size 0 5 = cap at hcv
  have hnew := buf_new w l cap
  have hbel : Below w.heap.size w (w.drew.alloc (.cells (bytesRow ⟨l.toArray⟩ cap) 5 ((bytesRow ⟨l.toArray⟩ cap).size, (bytesRow ⟨l.toArray⟩ cap).size + 1))) := (Below.refl _ w).drew.alloc (Nat.le_refl _) _
  generalize (w.drew.alloc (.cells (bytesRow ⟨l.toArray⟩ cap) 5 ((bytesRow ⟨l.toArray⟩ cap).size, (bytesRow ⟨l.toArray⟩ cap).size + 1))) = w1 at *
  obtain ⟨B, hB⟩ : ∃ B, B = w.heap.size := ⟨_, rfl⟩
  rw [← hB] at hcv hnew hbel ⊢
  clear hB
  rw [bsize] at hcv
  go_enter Tryz.func79, Tryz.ntmps79
  go_wp2_with fail
  clear hcv
  go_loopw [10] (fun s wr => ∃ k : Nat, s = .int .i64 k ∧ k ≤ l.length ∧ Buf wr B (mixS l k) ∧ Below B w wr) (fun s _ => l.length - (RowKit.intOf s).toNat)
  case atStart => exact ⟨0, rfl, by omega, by simpa [mixS, lowS] using hnew, hbel⟩
  case round =>
    obtain ⟨k, rfl, hk, hbuf, hb⟩ := hrel
    clear hnew hbel
    by_cases hlt : k < l.length
    · obtain ⟨c, rest, hd1, hd2, hidx⟩ := byte_at l k hlt
      have hml := mix_len l k hk
      have hcell := buf_cell hbuf k _ (mix_at l k c rest hlt hd1)
      have hfr := buf_frozen hbuf k (by omega)
      have hlt8 := c.toNat_lt
      by_cases g : 65 ≤ c.toNat ∧ c.toNat ≤ 90
      · have hset := buf_set hbuf k (by omega) (.int .u8 (lowC c).toNat)
        rw [← mix_step l k c rest hlt hd1, lowC_in c g, show (c.toNat : Int) + 32 = (c.toNat : Int) + 97 - 65 from by omega] at hset
        have hbs := hb.setCell (p := ⟨B, k, none⟩) (Nat.le_refl _) (.int .u8 ((c.toNat : Int) + 97 - 65))
        obtain ⟨g1, g2⟩ := g
        clear hd1 hd2 hidx hbuf hb
        go_wp2_with fail
        go_roundw
        case rel => exact ⟨k + 1, by go_num, by omega, hset, hbs⟩
        case measure => simp [RowKit.intOf]; omega
      · have hsame := hbuf
        rw [← mix_same l k c rest hlt hd1 (lowC_out c g)] at hsame
        have g' := (show c.toNat < 65 ∨ (65 ≤ c.toNat ∧ 90 < c.toNat) by omega)
        clear hd1 hd2 hidx hbuf g
        rcases g' with g1 | ⟨g1, g2⟩
        · go_wp2_with fail
          go_roundw
          case rel => exact ⟨k + 1, by go_num, by omega, hsame, hb⟩
          case measure => simp [RowKit.intOf]; omega
        · go_wp2_with fail
          go_roundw
          case rel => exact ⟨k + 1, by go_num, by omega, hsame, hb⟩
          case measure => simp [RowKit.intOf]; omega
    · obtain rfl : k = l.length := by omega
      have hm : mixS l l.length = cellsOf (lowS l) := by simp [mixS]
      rw [hm] at hbuf
      have hcs := buf_string hbuf cap l.length (by simp [lowS])
      clear hbuf
      go_wp2_with fail
      go_ret
      exact ⟨rfl, hb⟩
end Go.Proofs.YtoajgfhcongocaaGreatDoor.link

namespace Go.Proofs.YtoajgfhcongocaaGreatDoor.doc
open Go.Proofs.YtoajgfhcongocaaGreatDoor.atr Go.Proofs.YtoajgfhcongocaaGreatDoor.link

def typeNames : List (List UInt8) := [[104, 105, 100, 100, 101, 110], [116, 101, 120, 116], [115, 101, 97, 114, 99, 104], [116, 101, 108], [117, 114, 108], [101, 109, 97, 105, 108], [112, 97, 115, 115, 119, 111, 114, 100], [100, 97, 116, 101], [109, 111, 110, 116, 104], [119, 101, 101, 107], [116, 105, 109, 101], [100, 97, 116, 101, 116, 105, 109, 101, 45, 108, 111, 99, 97, 108], [110, 117, 109, 98, 101, 114], [114, 97, 110, 103, 101], [99, 111, 108, 111, 114], [99, 104, 101, 99, 107, 98, 111, 120], [114, 97, 100, 105, 111], [102, 105, 108, 101], [115, 117, 98, 109, 105, 116], [105, 109, 97, 103, 101], [114, 101, 115, 101, 116], [98, 117, 116, 116, 111, 110]]
def elemNames : List (List UInt8) := [[111, 117, 116, 112, 117, 116], [102, 105, 101, 108, 100, 115, 101, 116], [102, 111, 114, 109], [108, 97, 98, 101, 108], [111, 112, 116, 105, 111, 110], [111, 112, 116, 103, 114, 111, 117, 112], [108, 101, 103, 101, 110, 100], [100, 97, 116, 97, 108, 105, 115, 116]]
def nInput : List UInt8 := [105, 110, 112, 117, 116]
def nButton : List UInt8 := [98, 117, 116, 116, 111, 110]
def nSelect : List UInt8 := [115, 101, 108, 101, 99, 116]
def nTextarea : List UInt8 := [116, 101, 120, 116, 97, 114, 101, 97]
def nOption : List UInt8 := [111, 112, 116, 105, 111, 110]
def nOptgroup : List UInt8 := [111, 112, 116, 103, 114, 111, 117, 112]
def nReset : List UInt8 := [114, 101, 115, 101, 116]
/-- the place of a text in a list; how many there are, if it isn't in it -/
def placeL (s : List UInt8) : List (List UInt8) → Nat
  | [] => 0
  | x :: r => if x = s then 0 else placeL s r + 1
theorem placeL_le (s : List UInt8) (l : List (List UInt8)) : placeL s l ≤ l.length := by
  induction l with
  | nil => exact Nat.le_refl _
  | cons x r ih => unfold placeL; split <;> simp <;> omega
theorem placeL_at (s : List UInt8) : ∀ (l : List (List UInt8)) (k : Nat) (h : k < l.length), placeL s l = k → l[k] = s := by
  intro l
  induction l with
  | nil => intro k h; exact absurd h (Nat.not_lt_zero _)
  | cons x r ih =>
    intro k h e
    unfold placeL at e
    by_cases g : x = s
    · rw [if_pos g] at e; subst e; exact g
    · rw [if_neg g] at e
      cases k with
      | zero => omega
      | succ k => exact ih k (by simpa using h) (by omega)
def typeT (a : List Attr) : List UInt8 := lowS ((fval nType a).getD [])
def kindP (nm : List UInt8) (a : List Attr) : Int :=
  if nm = nInput then (if placeL (typeT a) typeNames < 22 then (placeL (typeT a) typeNames : Int) + 1 else 2)
  else if nm = nButton then (if typeT a = nReset then 26 else if typeT a = nButton then 27 else 25)
  else if nm = nSelect then 23
  else if nm = nTextarea then 24
  else if placeL nm elemNames < 8 then (placeL nm elemNames : Int) + 28 else 0
def kN (l : List Nd) (k : Int) : Int := kindP (nd l k).name (nd l k).attrs
theorem kind_rest (nm : List UInt8) (a : List Attr) (h1 : nm ≠ nInput) (h2 : nm ≠ nButton) (h3 : nm ≠ nSelect) (h4 : nm ≠ nTextarea) :
    kindP nm a = if placeL nm elemNames < 8 then (placeL nm elemNames : Int) + 28 else 0 := by
  unfold kindP; rw [if_neg h1, if_neg h2, if_neg h3, if_neg h4]
theorem kind_input (a : List Attr) : 1 ≤ kindP nInput a ∧ kindP nInput a ≤ 22 := by
  unfold kindP; rw [if_pos rfl]; split <;> omega
theorem kind_button (a : List Attr) : 25 ≤ kindP nButton a ∧ kindP nButton a ≤ 27 := by
  unfold kindP; rw [if_neg (by decide), if_pos rfl]
  split
  · omega
  · split <;> omega
theorem kind_select (a : List Attr) : kindP nSelect a = 23 := by unfold kindP; rw [if_neg (by decide), if_neg (by decide), if_pos rfl]
theorem kind_area (a : List Attr) : kindP nTextarea a = 24 := by unfold kindP; rw [if_neg (by decide), if_neg (by decide), if_neg (by decide), if_pos rfl]
theorem kind_range (nm : List UInt8) (a : List Attr) : 0 ≤ kindP nm a ∧ kindP nm a ≤ 35 := by
  by_cases h1 : nm = nInput
  · rw [h1]; have := kind_input a; omega
  by_cases h2 : nm = nButton
  · rw [h2]; have := kind_button a; omega
  by_cases h3 : nm = nSelect
  · rw [h3, kind_select]; omega
  by_cases h4 : nm = nTextarea
  · rw [h4, kind_area]; omega
  rw [kind_rest nm a h1 h2 h3 h4]; split <;> omega
theorem kind_elem (nm : List UInt8) (a : List Attr) (k : Nat) (hk : k < elemNames.length) : kindP nm a = (k : Int) + 28 ↔ nm = elemNames[k] := by
  have e8 : elemNames.length = 8 := rfl
  constructor
  · intro h
    by_cases h1 : nm = nInput
    · rw [h1] at h; have := kind_input a; omega
    by_cases h2 : nm = nButton
    · rw [h2] at h; have := kind_button a; omega
    by_cases h3 : nm = nSelect
    · rw [h3, kind_select] at h; omega
    by_cases h4 : nm = nTextarea
    · rw [h4, kind_area] at h; omega
    rw [kind_rest nm a h1 h2 h3 h4] at h
    have hp : placeL nm elemNames = k := by split at h <;> omega
    exact (placeL_at nm elemNames k hk hp).symm
  · intro h
    have key : ∀ (k : Nat) (hk : k < 8), elemNames[k] ≠ nInput ∧ elemNames[k] ≠ nButton ∧ elemNames[k] ≠ nSelect ∧ elemNames[k] ≠ nTextarea ∧ placeL elemNames[k] elemNames = k := by decide
    obtain ⟨g1, g2, g3, g4, g5⟩ := key k (by omega)
    rw [h]
    refine (kind_rest _ a g1 g2 g3 g4).trans ?_
    rw [g5, if_pos (by omega)]
theorem kind_option (nm : List UInt8) (a : List Attr) : kindP nm a = 32 ↔ nm = nOption := kind_elem nm a 4 (by decide)
theorem kind_optgroup (nm : List UInt8) (a : List Attr) : kindP nm a = 33 ↔ nm = nOptgroup := kind_elem nm a 5 (by decide)
theorem kind_is_select (nm : List UInt8) (a : List Attr) : kindP nm a = 23 ↔ nm = nSelect := by
  constructor
  · intro h
    by_cases h1 : nm = nInput
    · rw [h1] at h; have := kind_input a; omega
    by_cases h2 : nm = nButton
    · rw [h2] at h; have := kind_button a; omega
    by_cases h3 : nm = nSelect
    · exact h3
    by_cases h4 : nm = nTextarea
    · rw [h4, kind_area] at h; omega
    rw [kind_rest nm a h1 h2 h3 h4] at h
    split at h <;> omega
  · rintro rfl; exact kind_select a
end Go.Proofs.YtoajgfhcongocaaGreatDoor.doc

namespace Go.Proofs.YtoajgfhcongocaaGreatDoor.doc
open Go.Proofs.YtoajgfhcongocaaGreatDoor.atr Go.Proofs.YtoajgfhcongocaaGreatDoor.link

def inR (l : List Nd) (k : Int) : Prop := 0 ≤ k ∧ k < (l.length : Int)
structure Rt (l : List Nd) : Prop where
  few : l.length ≤ 400
  some1 : 1 ≤ l.length
  root : (nd l 0).parent = -1
  alone : ∀ k, inR l k → aloneP (nd l k) = true
  par : ∀ k, inR l k → -1 ≤ (nd l k).parent ∧ (nd l k).parent < (l.length : Int)
  once : ∀ k, inR l k → 0 ≤ (nd l k).parent → (nd l (nd l k).parent).kids.count k = 1
  kid : ∀ k c, inR l k → c ∈ (nd l k).kids → inR l c ∧ (nd l c).parent = k
  ends : ∀ k, inR l k → climb l (l.length + 1) k < 0
theorem right_rt (l : List Nd) (h : rightB l = true) : Rt l := by
  unfold rightB headB nodesB climbsB at h
  simp only [Bool.and_eq_true, decide_eq_true_eq, List.all_eq_true, List.mem_range] at h
  obtain ⟨⟨⟨⟨⟨h1, h2⟩, h3⟩, h4⟩, hn⟩, hc⟩ := h
  have hN : ∀ k, inR l k → aloneP (nd l k) = true ∧ rangeB l k = true ∧ onceB l k = true ∧ kidsB l k = true := by
    intro k ⟨k1, k2⟩
    have := hn k.toNat (by omega)
    rw [show ((k.toNat : Nat) : Int) = k from by omega] at this
    unfold nodeB at this
    simp only [Bool.and_eq_true] at this
    exact ⟨this.1.1.1, this.1.1.2, this.1.2, this.2⟩
  refine ⟨h2, h1, h4, fun k hk => (hN k hk).1, ?_, ?_, ?_, ?_⟩
  · intro k hk
    have := (hN k hk).2.1
    unfold rangeB at this
    rw [Bool.and_eq_true, decide_eq_true_eq, decide_eq_true_eq] at this
    exact this
  · intro k hk hp
    have := (hN k hk).2.2.1
    unfold onceB at this
    rw [decide_eq_false (by omega)] at this
    simpa using this
  · intro k c hk hc
    obtain ⟨a, b, c⟩ := kidsB_mem l k c (hN k hk).2.2.2 hc
    exact ⟨⟨a, b⟩, c⟩
  · intro k ⟨k1, k2⟩
    have := hc k.toNat (by omega)
    rw [show ((k.toNat : Nat) : Int) = k from by omega] at this
    exact this

/-- how far from the top -/
def dpt (l : List Nd) : Nat → Int → Nat
  | 0, _ => 0
  | f + 1, k => if k < 0 then 0 else dpt l f (nd l k).parent + 1
theorem dpt_le (l : List Nd) : ∀ f k, dpt l f k ≤ f := by
  intro f
  induction f with
  | zero => intro k; exact Nat.le_refl _
  | succ f ih => intro k; unfold dpt; split
                 · omega
                 · have := ih (nd l k).parent; omega
theorem dpt_more (l : List Nd) : ∀ f k g, climb l f k < 0 → f ≤ g → dpt l g k = dpt l f k := by
  intro f
  induction f with
  | zero =>
    intro k g h _
    have h : k < 0 := h
    cases g with
    | zero => rfl
    | succ g => unfold dpt; rw [if_pos h]
  | succ f ih =>
    intro k g h hg
    obtain ⟨g, rfl⟩ : ∃ g', g = g' + 1 := ⟨g - 1, by omega⟩
    unfold dpt
    by_cases hk : k < 0
    · rw [if_pos hk, if_pos hk]
    · rw [if_neg hk, if_neg hk]
      unfold climb at h
      rw [if_neg hk] at h
      rw [ih _ g h (by omega)]
def dep (l : List Nd) (k : Int) : Nat := dpt l (l.length + 1) k
theorem dep_le (l : List Nd) (k : Int) : dep l k ≤ l.length + 1 := dpt_le l _ k
theorem dep_kid {l : List Nd} (h : Rt l) (c : Int) (hc : inR l c) : dep l c = dep l (nd l c).parent + 1 := by
  have he := h.ends c hc
  have e : climb l (l.length + 1) c = climb l l.length (nd l c).parent := by
    show (if c < 0 then c else climb l l.length (nd l c).parent) = _
    rw [if_neg (by have := hc.1; omega)]
  rw [e] at he
  have e2 : dep l c = dpt l l.length (nd l c).parent + 1 := by
    show (if c < 0 then 0 else dpt l l.length (nd l c).parent + 1) = _
    rw [if_neg (by have := hc.1; omega)]
  rw [e2]
  unfold dep
  rw [dpt_more l l.length _ (l.length + 1) he (by omega)]

/-- a node, and what is within it, in order -/
def pre (l : List Nd) : Nat → Int → List Int
  | 0, k => [k]
  | f + 1, k => k :: (nd l k).kids.flatMap (pre l f)
def ordP (l : List Nd) (k : Int) : List Int := pre l (l.length + 1 - dep l k) k
theorem flat_congr {α β : Type} (a : List α) (f g : α → List β) (h : ∀ x ∈ a, f x = g x) : a.flatMap f = a.flatMap g := by
  induction a with
  | nil => rfl
  | cons x r ih => rw [List.flatMap_cons, List.flatMap_cons, h x List.mem_cons_self, ih (fun y hy => h y (List.mem_cons_of_mem _ hy))]
theorem ord_eq {l : List Nd} (h : Rt l) (k : Int) (hk : inR l k) : ordP l k = k :: (nd l k).kids.flatMap (ordP l) := by
  unfold ordP
  cases hf : l.length + 1 - dep l k with
  | zero =>
    have hno : (nd l k).kids = [] := by
      cases hc : (nd l k).kids with
      | nil => rfl
      | cons c r =>
        obtain ⟨c1, c2⟩ := h.kid k c hk (by rw [hc]; exact List.mem_cons_self)
        have := dep_kid h c c1
        have h1 := dep_le l c
        rw [c2] at this
        omega
    rw [hno]; rfl
  | succ f =>
    show k :: (nd l k).kids.flatMap (pre l f) = _
    rw [flat_congr _ (pre l f) (fun c => pre l (l.length + 1 - dep l c) c)]
    intro c hc
    obtain ⟨c1, c2⟩ := h.kid k c hk hc
    have := dep_kid h c c1
    rw [c2] at this
    rw [show l.length + 1 - dep l c = f from by omega]
/-- by depth -/
theorem by_depth {l : List Nd} (h : Rt l) (P : Int → Prop) (hp : ∀ k, inR l k → (∀ c ∈ (nd l k).kids, P c) → P k) : ∀ k, inR l k → P k := by
  have key : ∀ m k, inR l k → l.length + 1 - dep l k ≤ m → P k := by
    intro m
    induction m with
    | zero =>
      intro k hk hm
      refine hp k hk (fun c hc => ?_)
      obtain ⟨c1, c2⟩ := h.kid k c hk hc
      have := dep_kid h c c1
      have h1 := dep_le l c
      rw [c2] at this
      omega
    | succ m ih =>
      intro k hk hm
      refine hp k hk (fun c hc => ?_)
      obtain ⟨c1, c2⟩ := h.kid k c hk hc
      have := dep_kid h c c1
      have h1 := dep_le l c
      rw [c2] at this
      exact ih c c1 (by omega)
  intro k hk
  exact key _ k hk (Nat.le_refl _)
theorem ord_in {l : List Nd} (h : Rt l) : ∀ k, inR l k → ∀ x ∈ ordP l k, inR l x ∧ dep l k ≤ dep l x := by
  refine by_depth h (fun k => ∀ x ∈ ordP l k, inR l x ∧ dep l k ≤ dep l x) ?_
  intro k hk ih x hx
  rw [ord_eq h k hk] at hx
  rcases List.mem_cons.1 hx with rfl | hx
  · exact ⟨hk, Nat.le_refl _⟩
  · obtain ⟨c, hc, hx⟩ := List.mem_flatMap.1 hx
    obtain ⟨c1, c2⟩ := h.kid k c hk hc
    have := dep_kid h c c1
    rw [c2] at this
    obtain ⟨a, b⟩ := ih c hc x hx
    exact ⟨a, by omega⟩

/-- the select of an option; -1: it has none -/
def upP (l : List Nd) (o : Int) : Int := if 0 ≤ (nd l o).parent ∧ (nd l (nd l o).parent).name = nOptgroup then (nd l (nd l o).parent).parent else (nd l o).parent
def ownerP (l : List Nd) (o : Int) : Int := if upP l o < 0 ∨ (nd l (upP l o)).name ≠ nSelect then -1 else upP l o
def optB (l : List Nd) (k : Int) : Bool := kN l k == 32
/-- a select's options -/
def innerP (l : List Nd) (k : Int) : List Int := (if kN l k = 33 then (nd l k).kids else [k]).filter (optB l)
def optsP (l : List Nd) (sel : Int) : List Int := (nd l sel).kids.flatMap (innerP l)
def ofP (l : List Nd) (sel x : Int) : Bool := decide ((nd l x).name = nOption) && decide (ownerP l x = sel)
theorem optB_name (l : List Nd) (k : Int) : optB l k = decide ((nd l k).name = nOption) := by
  unfold optB kN
  rw [Bool.eq_iff_iff, beq_iff_eq, decide_eq_true_eq]
  exact kind_option _ _
theorem far {l : List Nd} (h : Rt l) (sel : Int) (hs : inR l sel) (x : Int) (hx : inR l x) (hd : dep l sel + 3 ≤ dep l x) : ofP l sel x = false := by
  unfold ofP
  rw [Bool.and_eq_false_iff, decide_eq_false_iff_not, decide_eq_false_iff_not]
  right
  intro ho
  unfold ownerP at ho
  by_cases g : upP l x < 0 ∨ (nd l (upP l x)).name ≠ nSelect
  · rw [if_pos g] at ho; have := hs.1; omega
  · rw [if_neg g] at ho
    have e1 := dep_kid h x hx
    unfold upP at ho
    by_cases g2 : 0 ≤ (nd l x).parent ∧ (nd l (nd l x).parent).name = nOptgroup
    · rw [if_pos g2] at ho
      have e2 := dep_kid h (nd l x).parent ⟨g2.1, (h.par x hx).2⟩
      rw [ho] at e2
      omega
    · rw [if_neg g2] at ho
      rw [ho] at e1
      omega
theorem filter_flat {α β : Type} (a : List α) (f : α → List β) (p : β → Bool) : (a.flatMap f).filter p = a.flatMap (fun x => (f x).filter p) := by
  induction a with
  | nil => rfl
  | cons x r ih => rw [List.flatMap_cons, List.filter_append, ih, List.flatMap_cons]
theorem flat_none {α β : Type} (a : List α) (f : α → List β) (h : ∀ x ∈ a, f x = []) : a.flatMap f = [] := by
  induction a with
  | nil => rfl
  | cons x r ih => rw [List.flatMap_cons, h x List.mem_cons_self, ih (fun y hy => h y (List.mem_cons_of_mem _ hy))]; rfl
theorem flat_filter {α : Type} (a : List α) (p : α → Bool) : a.flatMap (fun x => if p x then [x] else []) = a.filter p := by
  induction a with
  | nil => rfl
  | cons x r ih =>
    rw [List.flatMap_cons, ih, List.filter_cons]
    split <;> rfl
theorem ord_far {l : List Nd} (h : Rt l) (sel : Int) (hs : inR l sel) (x : Int) (hx : inR l x) (hd : dep l sel + 3 ≤ dep l x) : (ordP l x).filter (ofP l sel) = [] := by
  rw [List.filter_eq_nil_iff]
  intro y hy
  obtain ⟨a, b⟩ := ord_in h x hx y hy
  rw [far h sel hs y a (by omega)]; simp
theorem ord_two {l : List Nd} (h : Rt l) (sel : Int) (hs : inR l sel) (x : Int) (hx : inR l x) (hd : dep l x = dep l sel + 2) : (ordP l x).filter (ofP l sel) = if ofP l sel x then [x] else [] := by
  rw [ord_eq h x hx, List.filter_cons, filter_flat, flat_none]
  · intro c hc
    obtain ⟨c1, c2⟩ := h.kid x c hx hc
    have := dep_kid h c c1
    rw [c2] at this
    exact ord_far h sel hs c c1 (by omega)
theorem ord_opts {l : List Nd} (h : Rt l) (sel : Int) (hs : inR l sel) (hn : (nd l sel).name = nSelect) : (ordP l sel).filter (ofP l sel) = optsP l sel := by
  have h0 : ofP l sel sel = false := by
    unfold ofP
    rw [hn]; rfl
  rw [ord_eq h sel hs, List.filter_cons, h0, if_neg (by simp), filter_flat]
  unfold optsP
  refine flat_congr _ _ _ (fun k hk => ?_)
  obtain ⟨k1, k2⟩ := h.kid sel k hs hk
  have dk := dep_kid h k k1
  rw [k2] at dk
  have huk : upP l k = sel := by
    unfold upP
    rw [k2, hn, if_neg (by rintro ⟨_, e⟩; exact absurd e (by decide))]
  have hok : ownerP l k = sel := by
    unfold ownerP
    rw [huk, if_neg (by rintro (e | e); exact absurd hs.1 (by omega); exact e hn)]
  have hqk : ofP l sel k = optB l k := by
    rw [optB_name]; unfold ofP; rw [hok, decide_eq_true (rfl : sel = sel), Bool.and_true]
  rw [ord_eq h k k1, List.filter_cons, hqk, filter_flat]
  have hinner : ((nd l k).kids.flatMap fun x => (ordP l x).filter (ofP l sel)) = if kN l k = 33 then (nd l k).kids.filter (optB l) else [] := by
    rw [flat_congr _ _ (fun x => if ofP l sel x then [x] else []) (fun x hx => by
      obtain ⟨x1, x2⟩ := h.kid k x k1 hx
      have dx := dep_kid h x x1
      rw [x2] at dx
      exact ord_two h sel hs x x1 (by omega)), flat_filter]
    have hx2 : ∀ x ∈ (nd l k).kids, ofP l sel x = (decide (kN l k = 33) && optB l x) := by
      intro x hx
      obtain ⟨x1, x2⟩ := h.kid k x k1 hx
      rw [optB_name]
      unfold ofP
      by_cases g : (nd l k).name = nOptgroup
      · have e33 : kN l k = 33 := (kind_optgroup _ _).2 g
        have hux : upP l x = sel := by unfold upP; rw [x2, g, if_pos ⟨k1.1, rfl⟩, k2]
        have : ownerP l x = sel := by
          unfold ownerP
          rw [hux, if_neg (by rintro (e | e); exact absurd hs.1 (by omega); exact e hn)]
        rw [this, e33, decide_eq_true (rfl : sel = sel), decide_eq_true (rfl : (33 : Int) = 33), Bool.and_true, Bool.true_and]
      · have e33 : kN l k ≠ 33 := fun e => g ((kind_optgroup _ _).1 e)
        have hux : upP l x = k := by unfold upP; rw [x2, if_neg (by rintro ⟨_, e⟩; exact g e)]
        have : ownerP l x ≠ sel := by
          unfold ownerP
          rw [hux]
          split
          · have := hs.1; omega
          · intro e; rw [e] at dk; omega
        rw [decide_eq_false this, decide_eq_false e33, Bool.and_false, Bool.false_and]
    rw [List.filter_congr hx2]
    by_cases g : kN l k = 33
    · rw [if_pos g, decide_eq_true g]; congr 1
    · rw [if_neg g, decide_eq_false g, List.filter_eq_nil_iff]; intro x _; simp
  rw [hinner]
  unfold innerP
  by_cases g : kN l k = 33
  · have ob : optB l k = false := by unfold optB; rw [g]; rfl
    rw [if_pos g, if_pos g, ob]; rfl
  · rw [if_neg g, if_neg g, List.filter_cons, List.filter_nil]
end Go.Proofs.YtoajgfhcongocaaGreatDoor.doc

namespace Go.Proofs.YtoajgfhcongocaaGreatDoor.str
open Go.Lib

/-- a text cut at the first byte c -/
def cut1 (c : UInt8) : List UInt8 → List UInt8 × List UInt8 × Bool
  | [] => ([], [], false)
  | b :: l => if b = c then ([], l, true) else (b :: (cut1 c l).1, (cut1 c l).2.1, (cut1 c l).2.2)

theorem cut_one (c : UInt8) (t : List UInt8) : Lib.cut t [c] = cut1 c t := by
  unfold Lib.cut
  rw [index_one]
  induction t with
  | nil => simp [indexByte, cut1]
  | cons b l ih =>
    by_cases h : b = c
    · subst h; simp [indexByte, cut1]
    · have hb : (b == c) = false := by simpa using h
      have hge := indexByte_ge l c
      rw [cut1, if_neg h, ← ih]
      by_cases hn : indexByte l c = -1
      · have e : indexByte (b :: l) c = -1 := by rw [indexByte, hb, hn]; rfl
        rw [e, hn]; rfl
      · obtain ⟨k, hk⟩ : ∃ k : Nat, indexByte l c = k := ⟨(indexByte l c).toNat, by omega⟩
        have e : indexByte (b :: l) c = ((k + 1 : Nat) : Int) := by
          have h2 : (indexByte l c == -1) = false := by simpa using hn
          rw [indexByte, hb, h2, hk]; simp
        rw [e, hk, if_pos (by omega), if_pos (by omega)]
        simp

theorem cut1_spec (c : UInt8) (t : List UInt8) : ((cut1 c t).2.2 = true ∧ t = (cut1 c t).1 ++ c :: (cut1 c t).2.1 ∧ c ∉ (cut1 c t).1) ∨ ((cut1 c t).2.2 = false ∧ (cut1 c t).1 = t ∧ (cut1 c t).2.1 = [] ∧ c ∉ t) := by
  induction t with
  | nil => right; simp [cut1]
  | cons b l ih =>
    unfold cut1
    by_cases h : b = c
    · subst h; left; simp
    · rw [if_neg h]
      rcases ih with ⟨h1, h2, h3⟩ | ⟨h1, h2, h3, h4⟩
      · left
        refine ⟨h1, ?_, ?_⟩
        · show b :: l = (b :: (cut1 c l).1) ++ c :: (cut1 c l).2.1
          rw [List.cons_append, ← h2]
        · simp only [List.mem_cons, not_or]
          exact ⟨fun e => h e.symm, h3⟩
      · right
        refine ⟨h1, ?_, h3, ?_⟩
        · show b :: (cut1 c l).1 = b :: l
          rw [h2]
        · simp only [List.mem_cons, not_or]
          exact ⟨fun e => h e.symm, h4⟩

theorem cut1_le (c : UInt8) (t : List UInt8) : (cut1 c t).1.length ≤ t.length ∧ (cut1 c t).2.1.length ≤ t.length := by
  rcases cut1_spec c t with ⟨_, h, _⟩ | ⟨_, h1, h2, _⟩
  · have := congrArg List.length h
    simp at this; omega
  · rw [h1, h2]; simp

end Go.Proofs.YtoajgfhcongocaaGreatDoor.str

namespace Go.Proofs.YtoajgfhcongocaaGreatDoor.cln
open Go.Lib Go.Proofs.YtoajgfhcongocaaGreatDoor.str Go.Proofs.YtoajgfhcongocaaGreatDoor.link

theorem index_split (c : UInt8) (s : List UInt8) : (index s [c] = -1 ∧ c ∉ s) ∨ ∃ (i : Nat) (p r : List UInt8), index s [c] = i ∧ s = p ++ c :: r ∧ p.length = i ∧ c ∉ p := by
  rw [index_one]
  induction s with
  | nil => left; exact ⟨rfl, by simp⟩
  | cons b r ih =>
    by_cases h : b = c
    · right
      exact ⟨0, [], r, by rw [indexByte, if_pos (by simpa using h)]; rfl, by rw [h]; rfl, rfl, by simp⟩
    · rcases ih with ⟨h1, h2⟩ | ⟨i, p, q, h1, h2, h3, h4⟩
      · left
        refine ⟨?_, by simp [h2, Ne.symm h]⟩
        rw [indexByte, if_neg (by simpa using h), if_pos (by rw [h1]; rfl)]
      · right
        refine ⟨i + 1, b :: p, q, ?_, by rw [h2]; rfl, by simp [h3], by simp [h4, Ne.symm h]⟩
        rw [indexByte, if_neg (by simpa using h), if_neg (by rw [h1]; simp), h1]; rfl
theorem replaceK_one (c : UInt8) (new : List UInt8) : ∀ (k : Nat) (s : List UInt8), s.count c ≤ k → replaceK [c] new k s = s.flatMap (fun b => if b = c then new else [b]) := by
  intro k
  induction k with
  | zero =>
    intro s h
    have hc : c ∉ s := List.count_eq_zero.1 (by omega)
    show s = _
    clear h
    induction s with
    | nil => rfl
    | cons b r ih =>
      rw [List.flatMap_cons, if_neg (by intro e; exact hc (by simp [e])), ← ih (fun e => hc (by simp [e]))]
      rfl
  | succ k ih =>
    intro s h
    rcases index_split c s with ⟨h1, h2⟩ | ⟨i, p, r, h1, rfl, h3, h4⟩
    · have := ih s (by rw [List.count_eq_zero.2 h2]; omega)
      rw [replaceK, if_pos (by rw [h1]; rfl)]
      clear this ih h h1
      induction s with
      | nil => rfl
      | cons b r ih =>
        rw [List.flatMap_cons, if_neg (by intro e; exact h2 (by simp [e])), ← ih (fun e => h2 (by simp [e]))]
        rfl
    · rw [replaceK_hit _ _ _ _ i h1, ← h3]
      have e1 : (p ++ c :: r).take p.length = p := by simp
      have e2 : (p ++ c :: r).drop (p.length + [c].length) = r := by simp
      rw [e1, e2, ih r (by rw [List.count_append, List.count_cons_self] at h; omega)]
      rw [List.flatMap_append, List.flatMap_cons, if_pos rfl]
      have e3 : p.flatMap (fun b => if b = c then new else [b]) = p := by
        clear h1 h3 h e1 e2
        induction p with
        | nil => rfl
        | cons b q ih2 =>
          rw [List.flatMap_cons, if_neg (by intro e; exact h4 (by simp [e])), ih2 (fun e => h4 (by simp [e]))]
          rfl
      rw [e3, List.append_assoc]
theorem replace_one (c : UInt8) (new s : List UInt8) (h : new ≠ [c]) : replaceAll s [c] new = s.flatMap (fun b => if b = c then new else [b]) := by
  unfold replaceAll replace
  rw [if_neg (by simpa using Ne.symm h)]
  have e : replaceNum s [c] (-1) = s.count c := by unfold replaceNum; rw [if_pos (Or.inl (by decide)), count_one]
  rw [e]
  exact replaceK_one c new _ s (Nat.le_refl _)

/-- a text without ends of lines -/
def noBr (s : List UInt8) : List UInt8 := s.filter (fun c => c != 13 && c != 10)
theorem drop_one (c : UInt8) (s : List UInt8) : replaceAll s [c] [] = s.filter (fun b => b != c) := by
  rw [replace_one c [] s (by simp)]
  induction s with
  | nil => rfl
  | cons b r ih =>
    rw [List.flatMap_cons, ih, List.filter_cons]
    by_cases h : b = c
    · rw [if_pos h, if_neg (by simp [h])]; rfl
    · rw [if_neg h, if_pos (by simp [h])]; rfl
theorem noBr_is (s : List UInt8) : replaceAll (replaceAll s [13] []) [10] [] = noBr s := by
  rw [drop_one, drop_one, List.filter_filter]
  unfold noBr
  congr 1
  funext c
  exact Bool.and_comm _ _
theorem noBr_again (s : List UInt8) : noBr (noBr s) = noBr s := by
  unfold noBr
  rw [List.filter_filter]
  congr 1
  funext c
  exact Bool.and_self _
theorem noBr_le (s : List UInt8) : (noBr s).length ≤ s.length := List.length_filter_le _ _

/-- a text without blanks at its ends -/
def blanks : List UInt8 := [9, 10, 12, 13, 32]
def isB (c : UInt8) : Bool := blanks.contains c
def stripB (s : List UInt8) : List UInt8 := trimS s blanks
theorem dropW_again (p : UInt8 → Bool) (l : List UInt8) : (l.dropWhile p).dropWhile p = l.dropWhile p := by
  induction l with
  | nil => rfl
  | cons c r ih =>
    rw [List.dropWhile_cons]
    cases h : p c
    · rw [if_neg (by simp), List.dropWhile_cons, h]; rfl
    · rw [if_pos rfl]; exact ih
theorem dropW_form (p : UInt8 → Bool) (l : List UInt8) : l.dropWhile p = [] ∨ ∃ c r, l.dropWhile p = c :: r ∧ p c = false := by
  induction l with
  | nil => left; rfl
  | cons c r ih =>
    rw [List.dropWhile_cons]
    cases h : p c
    · right; exact ⟨c, r, by rw [if_neg (by simp)], h⟩
    · rw [if_pos rfl]; exact ih
theorem dropW_snoc (p : UInt8 → Bool) (q : List UInt8) (c : UInt8) (h : p c = false) : ∃ q', (q ++ [c]).dropWhile p = q' ++ [c] := by
  induction q with
  | nil => exact ⟨[], by rw [List.nil_append, List.dropWhile_cons, h]; rfl⟩
  | cons b r ih =>
    rw [List.cons_append, List.dropWhile_cons]
    cases hb : p b
    · exact ⟨b :: r, by rw [if_neg (by simp)]; rfl⟩
    · rw [if_pos rfl]; exact ih
theorem stripB_again (s : List UInt8) : stripB (stripB s) = stripB s := by
  unfold stripB trimS trimLeftS trimRightS
  rcases dropW_form (fun c => blanks.contains c) s.reverse with h | ⟨c, r, h, hc⟩
  · rw [h]; rfl
  · rw [h, List.reverse_cons]
    obtain ⟨q, hq⟩ := dropW_snoc (fun c => blanks.contains c) r.reverse c hc
    rw [hq, List.reverse_append]
    have e : ([c].reverse ++ q.reverse).dropWhile (fun c => blanks.contains c) = [c].reverse ++ q.reverse := by
      show (c :: q.reverse).dropWhile _ = c :: q.reverse
      rw [List.dropWhile_cons, hc]; rfl
    rw [e, List.reverse_append, List.reverse_reverse, List.reverse_reverse, ← hq, dropW_again]
theorem dropW_mem (p : UInt8 → Bool) (l : List UInt8) (c : UInt8) (h : c ∈ l.dropWhile p) : c ∈ l := (List.dropWhile_sublist p).subset h
theorem stripB_mem (s : List UInt8) (c : UInt8) (h : c ∈ stripB s) : c ∈ s := by
  unfold stripB trimS trimLeftS trimRightS at h
  have h1 := dropW_mem _ _ _ h
  rw [List.mem_reverse] at h1
  have h2 := dropW_mem _ _ _ h1
  rwa [List.mem_reverse] at h2
theorem stripB_le (s : List UInt8) : (stripB s).length ≤ s.length := by
  unfold stripB trimS trimLeftS trimRightS
  have h1 := (List.dropWhile_sublist (fun c => blanks.contains c) (l := (s.reverse.dropWhile (fun c => blanks.contains c)).reverse)).length_le
  have h2 := (List.dropWhile_sublist (fun c => blanks.contains c) (l := s.reverse)).length_le
  rw [List.length_reverse] at h1 h2
  omega
theorem noBr_self (s : List UInt8) (h : ∀ c ∈ s, c ≠ 13 ∧ c ≠ 10) : noBr s = s := by
  unfold noBr
  rw [List.filter_eq_self]
  intro c hc
  simp [h c hc]
theorem noBr_mem (s : List UInt8) (c : UInt8) (h : c ∈ noBr s) : c ≠ 13 ∧ c ≠ 10 := by
  unfold noBr at h
  have := (List.mem_filter.1 h).2
  simpa using this
def trimM (s : List UInt8) : List UInt8 := stripB (noBr s)
theorem trimM_again (s : List UInt8) : trimM (trimM s) = trimM s := by
  unfold trimM
  rw [noBr_self (stripB (noBr s)) (fun c hc => noBr_mem s c (stripB_mem _ c hc)), stripB_again]
end Go.Proofs.YtoajgfhcongocaaGreatDoor.cln

namespace Go.Proofs.YtoajgfhcongocaaGreatDoor.doc
open Go.Proofs.YtoajgfhcongocaaGreatDoor.cln

/-- what was written, is a blank to come; the rest -/
def colS (out : List UInt8) (ahead : Bool) : List UInt8 → List UInt8
  | [] => out
  | c :: r => if isB c then colS out (decide (0 < out.length)) r else colS (out ++ (if ahead then [32] else []) ++ [c]) false r
/-- the runs of what is no blank; 'cur': the run so far -/
def wrdS (cur : List UInt8) : List UInt8 → List (List UInt8)
  | [] => if cur = [] then [] else [cur]
  | c :: r => if isB c then (if cur = [] then wrdS [] r else cur :: wrdS [] r) else wrdS (cur ++ [c]) r
def spW (ws : List (List UInt8)) : List UInt8 := ws.flatMap (fun x => 32 :: x)
def jnW : List (List UInt8) → List UInt8
  | [] => []
  | w :: r => w ++ spW r
def collapseS (s : List UInt8) : List UInt8 := colS [] false s
theorem spW_cons (x : List UInt8) (r : List (List UInt8)) : spW (x :: r) = 32 :: x ++ spW r := by unfold spW; rw [List.flatMap_cons]
theorem col_both (r : List UInt8) : (∀ out, out ≠ [] → colS out true r = out ++ spW (wrdS [] r)) ∧
    (∀ out cur, out ≠ [] → cur ≠ [] → ∃ x ws, wrdS cur r = (cur ++ x) :: ws ∧ colS out false r = out ++ x ++ spW ws) := by
  induction r with
  | nil =>
    refine ⟨fun out _ => ?_, fun out cur _ hc => ⟨[], [], ?_, ?_⟩⟩
    · rw [colS, wrdS, if_pos rfl]; simp [spW]
    · rw [wrdS, if_neg hc, List.append_nil]
    · rw [colS]; simp [spW]
  | cons c r ih =>
    obtain ⟨ia, ib⟩ := ih
    constructor
    · intro out ho
      have hl : decide (0 < out.length) = true := decide_eq_true (List.length_pos_iff.2 ho)
      rw [colS, wrdS]
      by_cases h : isB c = true
      · rw [if_pos h, if_pos h, if_pos rfl, hl, ia out ho]
      · rw [if_neg h, if_neg h, if_pos rfl]
        obtain ⟨x, ws, h1, h2⟩ := ib (out ++ [32] ++ [c]) ([] ++ [c]) (by simp) (by simp)
        rw [h1, h2, spW_cons]; simp
    · intro out cur ho hc
      have hl : decide (0 < out.length) = true := decide_eq_true (List.length_pos_iff.2 ho)
      rw [colS, wrdS]
      by_cases h : isB c = true
      · rw [if_pos h, if_pos h, if_neg hc, hl, ia out ho]
        exact ⟨[], wrdS [] r, by rw [List.append_nil], by rw [List.append_nil]⟩
      · rw [if_neg h, if_neg h]
        obtain ⟨x, ws, h1, h2⟩ := ib (out ++ (if false = true then [32] else []) ++ [c]) (cur ++ [c]) (by simp) (by simp)
        exact ⟨c :: x, ws, by rw [h1]; simp, by rw [h2]; simp⟩
theorem col_is (s : List UInt8) : collapseS s = jnW (wrdS [] s) := by
  unfold collapseS
  induction s with
  | nil => rw [colS, wrdS, if_pos rfl]; rfl
  | cons c r ih =>
    rw [colS, wrdS]
    by_cases h : isB c = true
    · rw [if_pos h, if_pos h, if_pos rfl]; exact ih
    · rw [if_neg h, if_neg h]
      obtain ⟨x, ws, h1, h2⟩ := (col_both r).2 ([] ++ (if false = true then [32] else []) ++ [c]) ([] ++ [c]) (by simp) (by simp)
      rw [h1, h2]; simp [jnW]
theorem col_le (s : List UInt8) : ∀ out a, (colS out a s).length ≤ out.length + 2 * s.length := by
  induction s with
  | nil => intro out a; rw [colS]; simp
  | cons c r ih =>
    intro out a
    rw [colS]
    split
    · have := ih out (decide (0 < out.length)); simp at this ⊢; omega
    · have := ih (out ++ (if a then [32] else []) ++ [c]) false
      cases a <;> simp at this ⊢ <;> omega
theorem collapse_le (s : List UInt8) : (collapseS s).length ≤ 2 * s.length := by
  have := col_le s [] false; simpa [collapseS] using this
/-- the runs: where each begins -/
theorem wrd_len (s : List UInt8) : ∀ cur, (wrdS cur s).length ≤ s.length + 1 := by
  induction s with
  | nil => intro cur; rw [wrdS]; split <;> simp
  | cons c r ih =>
    intro cur
    rw [wrdS]
    split
    · split
      · have := ih []; simp; omega
      · have := ih []; simp; omega
    · have := ih (cur ++ [c]); simp; omega
end Go.Proofs.YtoajgfhcongocaaGreatDoor.doc

namespace Go.Proofs.YtoajgfhcongocaaGreatDoor.ctl

structure Ent where
  name : List UInt8
  value : List UInt8
  file : Bool
  fname : List UInt8
  typ : List UInt8
instance : Inhabited Ent := ⟨⟨[], [], false, [], []⟩⟩
structure Ctl where
  value : List UInt8
  dirty : Bool
  typed : Bool
  checked : Bool
  dchecked : Bool
  mixed : Bool
  selected : Bool
  dselected : Bool
  custom : List UInt8
  files : List Ent
instance : Inhabited Ctl := ⟨⟨[], false, false, false, false, false, false, false, [], []⟩⟩
end Go.Proofs.YtoajgfhcongocaaGreatDoor.ctl

namespace Go.Proofs.YtoajgfhcongocaaGreatDoor.num
open Go.Lib

def isDig (c : UInt8) : Bool := 48 ≤ c && c ≤ 57
def allDig (l : List UInt8) : Bool := l.all isDig
/-- how many digits stand ahead -/
def cnt : List UInt8 → Nat
  | [] => 0
  | c :: l => if isDig c then cnt l + 1 else 0

theorem isDig_iff (c : UInt8) : isDig c = true ↔ 48 ≤ (c.toNat : Int) ∧ (c.toNat : Int) ≤ 57 := by
  unfold isDig
  simp [UInt8.le_iff_toNat_le]; omega
theorem isDig_no (c : UInt8) (h : isDig c = false) : (c.toNat : Int) < 48 ∨ 57 < (c.toNat : Int) := by
  have := isDig_iff c
  rw [h] at this
  simp at this; omega

theorem cnt_le (l : List UInt8) : cnt l ≤ l.length := by
  induction l with
  | nil => exact Nat.le_refl _
  | cons c l ih => unfold cnt; split <;> simp <;> omega

theorem allDig_cons (c : UInt8) (l : List UInt8) : allDig (c :: l) = (isDig c && allDig l) := rfl

theorem cnt_all (l : List UInt8) : cnt l = l.length ↔ allDig l = true := by
  induction l with
  | nil => simp [cnt, allDig]
  | cons c l ih =>
    have := cnt_le l
    rw [allDig_cons]
    unfold cnt
    cases h : isDig c
    · simp
    · simp [ih]

theorem cnt_take (l : List UInt8) : allDig (l.take (cnt l)) = true := by
  induction l with
  | nil => rfl
  | cons c l ih =>
    unfold cnt
    cases h : isDig c
    · simp [allDig]
    · simp [allDig_cons, h, ih]

theorem cnt_next (l : List UInt8) (c : UInt8) (r : List UInt8) (h : l.drop (cnt l) = c :: r) : isDig c = false := by
  induction l with
  | nil => simp [cnt] at h
  | cons d l ih =>
    unfold cnt at h
    cases hd : isDig d
    · simp [hd] at h; rw [← h.1]; exact hd
    · simp [hd] at h; exact ih h

/-- a number of digits, and no digit behind them -/
theorem cnt_append (a b : List UInt8) (ha : allDig a = true) : cnt (a ++ b) = a.length + cnt b := by
  induction a with
  | nil => simp
  | cons c a ih =>
    rw [allDig_cons] at ha
    simp at ha
    simp [cnt, ha.1, ih ha.2]; omega

/-- what digits tell -/
@[irreducible] def dv (c : UInt8) : Nat := c.toNat - 48
theorem dv_eq (c : UInt8) : dv c = c.toNat - 48 := by unfold dv; rfl
def valFrom (a : Nat) : List UInt8 → Nat
  | [] => a
  | c :: l => valFrom (a * 10 + dv c) l
def val (l : List UInt8) : Nat := valFrom 0 l

theorem valFrom_cons (a : Nat) (c : UInt8) (l : List UInt8) : valFrom a (c :: l) = valFrom (a * 10 + dv c) l := rfl
theorem valFrom_append (a : Nat) (l m : List UInt8) : valFrom a (l ++ m) = valFrom (valFrom a l) m := by
  induction l generalizing a with
  | nil => rfl
  | cons c l ih => rw [List.cons_append, valFrom_cons, valFrom_cons, ih]
theorem valFrom_mul (l : List UInt8) : ∀ a : Nat, valFrom a l = a * 10 ^ l.length + val l := by
  induction l with
  | nil => intro a; simp [valFrom, val]
  | cons c l ih =>
    intro a
    unfold val
    rw [valFrom_cons, valFrom_cons, ih, ih, List.length_cons, Nat.pow_succ]
    generalize 10 ^ l.length = p
    generalize dv c = d
    rw [Nat.add_mul, Nat.add_mul, Nat.zero_mul, Nat.zero_add, Nat.mul_assoc, Nat.mul_comm 10 p, Nat.add_assoc]
theorem valFrom_ge (a : Nat) (l : List UInt8) : a ≤ valFrom a l := by
  rw [valFrom_mul]
  have : 1 ≤ 10 ^ l.length := Nat.one_le_pow _ _ (by decide)
  have := Nat.mul_le_mul_left a this
  omega
theorem val_lt (l : List UInt8) (h : allDig l = true) : val l < 10 ^ l.length := by
  induction l with
  | nil => simp [val, valFrom]
  | cons c l ih =>
    rw [allDig_cons] at h
    simp at h
    have h1 := ih h.2
    have h2 := (isDig_iff c).1 h.1
    have e : val (c :: l) = dv c * 10 ^ l.length + val l := by
      unfold val
      rw [valFrom_cons, valFrom_mul, Nat.zero_mul, Nat.zero_add]; rfl
    rw [e, List.length_cons, Nat.pow_succ]
    have h3 : dv c ≤ 9 := by rw [dv_eq]; omega
    have := Nat.mul_le_mul_right (10 ^ l.length) h3
    omega

/-- without the noughts at the end -/
def strip : List UInt8 → List UInt8
  | [] => []
  | c :: l => if strip l = [] ∧ c = 48 then [] else c :: strip l

theorem strip_snoc (l : List UInt8) (c : UInt8) : strip (l ++ [c]) = if c = 48 then strip l else l ++ [c] := by
  induction l with
  | nil => by_cases h : c = 48 <;> simp [strip, h]
  | cons d l ih =>
    by_cases h : c = 48
    · rw [if_pos h] at ih
      rw [if_pos h, List.cons_append, strip, strip, ih]
    · rw [if_neg h] at ih
      rw [if_neg h, List.cons_append, strip, ih]; simp

theorem strip_trim (l : List UInt8) : trimRightS l [48] = strip l := by
  have h : ∀ m : List UInt8, (m.dropWhile ([48].contains ·)).reverse = strip m.reverse := by
    intro m
    induction m with
    | nil => rfl
    | cons c m ih =>
      rw [List.reverse_cons, strip_snoc, List.dropWhile_cons]
      by_cases hc : c = 48
      · subst hc
        simpa using ih
      · simp [hc]
  unfold trimRightS
  rw [h, List.reverse_reverse]

theorem strip_le (l : List UInt8) : (strip l).length ≤ l.length := by
  induction l with
  | nil => simp [strip]
  | cons c l ih => unfold strip; split <;> simp; omega

theorem strip_pre (l : List UInt8) : ∃ k, l = strip l ++ List.replicate k 48 := by
  induction l with
  | nil => exact ⟨0, rfl⟩
  | cons c l ih =>
    obtain ⟨k, hk⟩ := ih
    unfold strip
    by_cases h : strip l = [] ∧ c = 48
    · rw [if_pos h]; refine ⟨k + 1, ?_⟩
      rw [h.1] at hk; rw [h.2, List.nil_append, List.replicate_succ, ← List.nil_append (List.replicate k 48), ← hk]
    · rw [if_neg h]; exact ⟨k, by rw [List.cons_append, ← hk]⟩

theorem strip_dig (l : List UInt8) (h : allDig l = true) : allDig (strip l) = true := by
  induction l with
  | nil => rfl
  | cons c l ih =>
    rw [allDig_cons] at h
    simp at h
    unfold strip
    split
    · rfl
    · rw [allDig_cons, h.1, ih h.2]; rfl

/-- 'strings.Trim(s, digits) == ""' -/
def digs : List UInt8 := [48, 49, 50, 51, 52, 53, 54, 55, 56, 57]
theorem digs_has (c : UInt8) : digs.contains c = isDig c := by
  have : ∀ n : Fin 256, digs.contains (UInt8.ofNat n.1) = isDig (UInt8.ofNat n.1) := by decide +kernel
  have h := this ⟨c.toNat, c.toNat_lt⟩
  simpa using h

theorem dropWhile_nil (p : UInt8 → Bool) (l : List UInt8) : l.dropWhile p = [] ↔ l.all p = true := by
  induction l with
  | nil => simp
  | cons c l ih => rw [List.dropWhile_cons]; cases h : p c <;> simp [h, ih]

theorem trim_digs (l : List UInt8) : trimS l digs = [] ↔ allDig l = true := by
  have e : (fun c => digs.contains c) = isDig := funext digs_has
  unfold trimS trimLeftS trimRightS allDig
  rw [e]
  constructor
  · intro h
    have h1 := (dropWhile_nil _ _).1 h
    rw [List.all_reverse] at h1
    have : ∀ m : List UInt8, (m.dropWhile isDig).all isDig = true → m.all isDig = true := by
      intro m
      induction m with
      | nil => simp
      | cons c m ih => rw [List.dropWhile_cons]; cases hc : isDig c <;> simp [hc]; simpa using ih
    have h2 := this _ h1
    rwa [List.all_reverse] at h2
  · intro h
    have h1 : l.reverse.dropWhile isDig = [] := (dropWhile_nil _ _).2 (by rw [List.all_reverse]; exact h)
    rw [h1]; rfl


theorem val_cons (c : UInt8) (l : List UInt8) : val (c :: l) = dv c * 10 ^ l.length + val l := by
  unfold val
  rw [valFrom_cons, valFrom_mul, Nat.zero_mul, Nat.zero_add]; rfl
theorem val_nil : val [] = 0 := rfl
theorem val_append (l m : List UInt8) : val (l ++ m) = val l * 10 ^ m.length + val m := by
  unfold val; rw [valFrom_append, valFrom_mul]; rfl
theorem dv_zero : dv 48 = 0 := by rw [dv_eq]; rfl
theorem dv_le (c : UInt8) (h : isDig c = true) : dv c ≤ 9 := by
  have := (isDig_iff c).1 h
  rw [dv_eq]; omega
theorem dv_inj (c : UInt8) (h : isDig c = true) : dv c = 0 ↔ c = 48 := by
  have := (isDig_iff c).1 h
  rw [dv_eq]
  constructor
  · intro e
    have : c.toNat = 48 := by omega
    exact UInt8.toNat_inj.1 this
  · rintro rfl; rfl
theorem val_zeros (k : Nat) : val (List.replicate k 48) = 0 := by
  induction k with
  | zero => rfl
  | succ k ih => rw [List.replicate_succ, val_cons, ih, dv_zero]; simp

/-- the digits behind the point, as the reference goes through them -/
def fr (mx : Bool) (i : Nat) (out unit : Nat) : List UInt8 → Option Nat
  | [] => some out
  | c :: p => if dv c ≠ 0 ∧ (mx = true ∨ 6 ≤ i) then none else fr mx (i + 1) (out + dv c * unit) (unit / 10) p

theorem strip_zero (p : List UInt8) (h : strip p = []) : strip (48 :: p) = [] := by rw [strip, if_pos ⟨h, rfl⟩]
theorem strip_keep (c : UInt8) (p : List UInt8) (h : strip p ≠ [] ∨ c ≠ 48) : strip (c :: p) = c :: strip p := by
  rw [strip, if_neg]; rintro ⟨h1, h2⟩; rcases h with h | h
  · exact h h1
  · exact h h2

theorem pow_less (i : Nat) (hi : i < 6) : 10 ^ (6 - i) / 10 = 10 ^ (6 - (i + 1)) := by
  rw [show 6 - i = (6 - (i + 1)) + 1 by omega, Nat.pow_succ, Nat.mul_div_cancel _ (by decide)]

theorem fr_eq (mx : Bool) (p : List UInt8) : ∀ (i out : Nat), allDig p = true →
    fr mx i out (10 ^ (6 - i) / 10) p = if (mx = true ∧ strip p ≠ []) ∨ 6 - i < (strip p).length then none else some (out + val (strip p) * 10 ^ (6 - i - (strip p).length)) := by
  induction p with
  | nil => intro i out _; simp [fr, strip, val_nil]
  | cons c p ih =>
    intro i out hd
    rw [allDig_cons] at hd
    simp at hd
    obtain ⟨hc, hp⟩ := hd
    have hz := dv_inj c hc
    rw [fr]
    by_cases h0 : dv c = 0
    · have hc0 := hz.1 h0
      subst hc0
      rw [if_neg (fun h => h.1 h0), h0, Nat.zero_mul, Nat.add_zero out]
      have hu : 10 ^ (6 - i) / 10 / 10 = 10 ^ (6 - (i + 1)) / 10 := by
        by_cases hi : i < 6
        · rw [pow_less i hi]
        · rw [show 6 - i = 0 by omega, show 6 - (i + 1) = 0 by omega]
      rw [hu, ih (i + 1) out hp]
      by_cases hs : strip p = []
      · rw [strip_zero p hs, hs]; simp [val_nil]
      · rw [strip_keep 48 p (Or.inl hs)]
        have hl : 1 ≤ (strip p).length := by
          cases h : strip p with
          | nil => exact absurd h hs
          | cons a b => simp
        by_cases hm : mx = true
        · simp [hm, hs]
        · by_cases hq : 6 - (i + 1) < (strip p).length
          · rw [if_pos (Or.inr hq), if_pos (Or.inr (by rw [List.length_cons]; omega))]
          · rw [if_neg (fun h => h.elim (fun g => hm g.1) hq), if_neg (fun h => h.elim (fun g => hm g.1) (fun g => by rw [List.length_cons] at g; omega)), val_cons, h0, List.length_cons, Nat.zero_mul, Nat.zero_add]
            rw [show 6 - i - ((strip p).length + 1) = 6 - (i + 1) - (strip p).length by omega]
    · have hc0 : ¬ c = 48 := fun h => h0 (hz.2 h)
      rw [strip_keep c p (Or.inr hc0)]
      by_cases hm : mx = true
      · rw [if_pos ⟨h0, Or.inl hm⟩, if_pos (Or.inl ⟨hm, by simp⟩)]
      · by_cases hi : 6 ≤ i
        · rw [if_pos ⟨h0, Or.inr hi⟩, if_pos (Or.inr (by rw [List.length_cons]; omega))]
        · rw [if_neg (fun h => h.2.elim hm hi)]
          rw [pow_less i (by omega), ih (i + 1) _ hp]
          by_cases hq : 6 - (i + 1) < (strip p).length
          · rw [if_pos (Or.inr hq), if_pos (Or.inr (by rw [List.length_cons]; omega))]
          · rw [if_neg (fun h => h.elim (fun g => hm g.1) hq), if_neg (fun h => h.elim (fun g => hm g.1) (fun g => by rw [List.length_cons] at g; omega)), val_cons, List.length_cons]
            rw [show 6 - i - ((strip p).length + 1) = 6 - (i + 1) - (strip p).length by omega]
            rw [Nat.add_mul, Nat.mul_assoc, ← Nat.pow_add, show (strip p).length + (6 - (i + 1) - (strip p).length) = 6 - (i + 1) by omega, Nat.add_assoc]

/-- the digits ahead of the point, as the reference goes through them -/
def satFrom (n : Nat) : List UInt8 → Nat
  | [] => n
  | c :: l => satFrom (if n ≤ 1000000000000 then n * 10 + dv c else n) l

theorem satFrom_snoc (l : List UInt8) (c : UInt8) : ∀ n, satFrom n (l ++ [c]) = if satFrom n l ≤ 1000000000000 then satFrom n l * 10 + dv c else satFrom n l := by
  induction l with
  | nil => intro n; rfl
  | cons d l ih => intro n; rw [List.cons_append, satFrom, satFrom, ih]

theorem satFrom_big (l : List UInt8) : ∀ n, ¬ n ≤ 1000000000000 → satFrom n l = n := by
  induction l with
  | nil => intro n _; rfl
  | cons c l ih => intro n h; rw [satFrom, if_neg h, ih n h]

theorem satFrom_le (l : List UInt8) : ∀ n, allDig l = true → n ≤ 10000000000009 → satFrom n l ≤ 10000000000009 := by
  induction l with
  | nil => intro n _ h; exact h
  | cons c l ih =>
    intro n hd h
    rw [allDig_cons] at hd
    simp at hd
    have := dv_le c hd.1
    rw [satFrom]
    split
    · exact ih _ hd.2 (by omega)
    · exact ih _ hd.2 h

theorem satFrom_eq (l : List UInt8) : ∀ n, (valFrom n l ≤ 1000000000000 → satFrom n l = valFrom n l) ∧ (¬ valFrom n l ≤ 1000000000000 → ¬ satFrom n l ≤ 1000000000000) := by
  induction l with
  | nil => intro n; exact ⟨fun _ => rfl, fun h => h⟩
  | cons c l ih =>
    intro n
    rw [satFrom, valFrom_cons]
    by_cases h : n ≤ 1000000000000
    · rw [if_pos h]; exact ih _
    · rw [if_neg h, satFrom_big l n h]
      refine ⟨fun g => ?_, fun _ => h⟩
      have := valFrom_ge (n * 10 + dv c) l
      omega

/-! ### What a text tells -/

/-- the number of a text whose form is right: h ahead of the point, p behind it -/
def fin (neg : Bool) (h p : List UInt8) : Int × Int :=
  if val h ≤ 1000000000000 ∧ ¬ (val h = 1000000000000 ∧ strip p ≠ []) ∧ (strip p).length ≤ 6 then
    let v : Int := ((val h * 1000000 + val (strip p) * 10 ^ (6 - (strip p).length) : Nat) : Int)
    (if neg then -v else v, 0)
  else (0, 2)

/-- what stands behind a '-' -/
def unsigned (l : List UInt8) : List UInt8 := if l.head? = some 45 then l.tail else l
def negB (l : List UInt8) : Bool := l.head? == some 45

def parseT (neg : Bool) (t : List UInt8) : Int × Int :=
  match t.drop (cnt t) with
  | [] => if cnt t = 0 then (0, 1) else fin neg t []
  | c :: p => if c = 46 ∧ p ≠ [] ∧ allDig p = true then fin neg (t.take (cnt t)) p else (0, 1)

/-- P3.1 -/
def parseS (l : List UInt8) : Int × Int := parseT (negB l) (unsigned l)


theorem unsigned_le (l : List UInt8) : (unsigned l).length ≤ l.length := by unfold unsigned; split <;> simp

theorem fin_big (neg : Bool) (h p : List UInt8) (hb : ¬ satFrom 0 h ≤ 1000000000000) : fin neg h p = (0, 2) := by
  unfold fin
  have h1 := (satFrom_eq h 0).1
  rw [if_neg]
  rintro ⟨h2, _⟩
  exact hb (by rw [h1 h2]; exact h2)

theorem sat_val (h : List UInt8) (hb : satFrom 0 h ≤ 1000000000000) : val h = satFrom 0 h := by
  have h1 := satFrom_eq h 0
  by_cases g : valFrom 0 h ≤ 1000000000000
  · exact (h1.1 g).symm
  · exact absurd hb (h1.2 g)

theorem fin_none (neg : Bool) (h p : List UInt8) (hp : allDig p = true) (hb : satFrom 0 h ≤ 1000000000000) (hf : fr (decide (satFrom 0 h = 1000000000000)) 0 (satFrom 0 h * 1000000) 100000 p = none) : fin neg h p = (0, 2) := by
  have e := fr_eq (decide (satFrom 0 h = 1000000000000)) p 0 (satFrom 0 h * 1000000) hp
  have hv := sat_val h hb
  rw [show 10 ^ (6 - 0) / 10 = 100000 from rfl, hf] at e
  unfold fin
  rw [if_neg]
  rintro ⟨_, h2, h3⟩
  rw [if_neg] at e
  · cases e
  · rintro (⟨g1, g2⟩ | g)
    · exact h2 ⟨by rw [hv]; simpa using g1, g2⟩
    · omega

theorem fin_some (neg : Bool) (h p : List UInt8) (out : Nat) (hp : allDig p = true) (hb : satFrom 0 h ≤ 1000000000000) (hf : fr (decide (satFrom 0 h = 1000000000000)) 0 (satFrom 0 h * 1000000) 100000 p = some out) : fin neg h p = (if neg then -(out : Int) else out, 0) := by
  have e := fr_eq (decide (satFrom 0 h = 1000000000000)) p 0 (satFrom 0 h * 1000000) hp
  have hv := sat_val h hb
  rw [show 10 ^ (6 - 0) / 10 = 100000 from rfl, hf] at e
  unfold fin
  by_cases hc : ((decide (satFrom 0 h = 1000000000000)) = true ∧ strip p ≠ []) ∨ 6 - 0 < (strip p).length
  · rw [if_pos hc] at e; cases e
  · rw [if_neg hc] at e
    rw [if_pos]
    · have : out = val h * 1000000 + val (strip p) * 10 ^ (6 - (strip p).length) := by rw [hv]; exact Option.some.inj e
      rw [← this]
    · refine ⟨by omega, fun g => hc (Or.inl ⟨by rw [← hv]; exact decide_eq_true g.1, g.2⟩), ?_⟩
      by_cases g : (strip p).length ≤ 6
      · exact g
      · exact absurd (Or.inr (by omega)) hc

theorem take_snoc' (t : List UInt8) (i : Nat) (c : UInt8) (r : List UInt8) (h : t.drop i = c :: r) : t.take (i + 1) = t.take i ++ [c] := by
  have hi : i < t.length := by
    apply Nat.lt_of_not_le; intro g
    rw [List.drop_eq_nil_of_le g] at h; cases h
  rw [List.drop_eq_getElem_cons hi] at h
  rw [List.take_succ_eq_append_getElem hi, (List.cons.inj h).1]

theorem dig_at (t : List UInt8) (i : Nat) (c : UInt8) (r : List UInt8) (h : t.drop i = c :: r) (hi : i < cnt t) : isDig c = true := by
  induction t generalizing i with
  | nil => simp at h
  | cons d t ih =>
    unfold cnt at hi
    cases hd : isDig d
    · simp [hd] at hi
    · simp [hd] at hi
      cases i with
      | zero => simp at h; rw [← h.1]; exact hd
      | succ i => exact ih i (by simpa using h) (by omega)

theorem dig_all (t : List UInt8) (i : Nat) (c : UInt8) (r : List UInt8) (h : t.drop i = c :: r) (hd : allDig t = true) : isDig c = true := by
  refine dig_at t i c r h ?_
  rw [(cnt_all t).2 hd]
  apply Nat.lt_of_not_le; intro g
  rw [List.drop_eq_nil_of_le g] at h; cases h

/-- a byte's test, as the walk writes it -/
theorem byteq (c d : UInt8) (n : Int) (h : (d.toNat : Int) = n) : ((c.toNat : Int) == n) = (c == d) := by
  subst h
  rw [Bool.eq_iff_iff]
  simp only [beq_iff_eq]
  constructor
  · intro h; exact UInt8.toNat_inj.1 (by omega)
  · rintro rfl; rfl

theorem negB_cons (c : UInt8) (r : List UInt8) : negB (c :: r) = ((c.toNat : Int) == 45) := by
  rw [byteq c 45 45 rfl]
  rfl

theorem unsigned_at (l : List UInt8) : (negB l = true → 1 ≤ l.length ∧ l.drop 1 = unsigned l) ∧ (negB l = false → l.drop 0 = unsigned l) := by
  cases l with
  | nil => exact ⟨fun h => (by cases h), fun _ => rfl⟩
  | cons c r =>
    unfold negB unsigned
    constructor
    · intro h
      have : c = 45 := by simpa using h
      subst this; simp
    · intro h
      have : c ≠ 45 := by simpa using h
      simp [this]

/-- does a point stand behind the digits? -/
def pointB (t : List UInt8) : Bool := match t.drop (cnt t) with | [] => false | c :: _ => c == 46

theorem parseT_nil (neg : Bool) (t : List UInt8) (h : t.drop (cnt t) = []) : parseT neg t = if cnt t = 0 then (0, 1) else fin neg (t.take (cnt t)) [] := by
  have h1 : t.take (cnt t) = t := List.take_of_length_le (by have := congrArg List.length h; simp at this; omega)
  unfold parseT; rw [h, h1]
theorem parseT_cons (neg : Bool) (t : List UInt8) (c : UInt8) (p : List UInt8) (h : t.drop (cnt t) = c :: p) : parseT neg t = if c = 46 ∧ p ≠ [] ∧ allDig p = true then fin neg (t.take (cnt t)) p else (0, 1) := by
  unfold parseT; rw [h]

theorem drop_len {t : List UInt8} {d : Nat} {c : UInt8} {p : List UInt8} (h : t.drop d = c :: p) : t.length ≤ d + 1 + p.length ∧ d + 1 + p.length ≤ t.length := by
  have := congrArg List.length h
  simp at this
  omega
theorem drop_nil_len {t : List UInt8} {d : Nat} (h : t.drop d = []) : t.length ≤ d := by
  have := congrArg List.length h
  simp at this
  omega

theorem byte_at (l : List UInt8) (i : Nat) (h : i < l.length) : ∃ c rest, l.drop i = c :: rest ∧ l.drop (i + 1) = rest ∧ ∀ h', (⟨l.toArray⟩ : ByteArray)[i]'h' = c :=
  ⟨l[i], l.drop (i + 1), List.drop_eq_getElem_cons h, rfl, fun _ => rfl⟩

end Go.Proofs.YtoajgfhcongocaaGreatDoor.num

namespace Go.Proofs.YtoajgfhcongocaaGreatDoor.doc
open Go.Proofs.YtoajgfhcongocaaGreatDoor.atr Go.Proofs.YtoajgfhcongocaaGreatDoor.link Go.Proofs.YtoajgfhcongocaaGreatDoor.ctl Go.Proofs.YtoajgfhcongocaaGreatDoor.num

/-- what is done to the states of some -/
def mapOn (g : Int → Ctl → Ctl) (cs : List Ctl) (os : List Int) : List Ctl := cs.mapIdx (fun i c => if (i : Int) ∈ os then g i c else c)
theorem mapOn_len (g : Int → Ctl → Ctl) (cs : List Ctl) (os : List Int) : (mapOn g cs os).length = cs.length := by unfold mapOn; rw [List.length_mapIdx]
theorem mapOn_get (g : Int → Ctl → Ctl) (cs : List Ctl) (os : List Int) (i : Nat) : (mapOn g cs os)[i]? = cs[i]?.map (fun c => if (i : Int) ∈ os then g i c else c) := by
  unfold mapOn; rw [List.getElem?_mapIdx]
theorem mapOn_nil (g : Int → Ctl → Ctl) (cs : List Ctl) : mapOn g cs [] = cs := by
  apply List.ext_getElem?
  intro i
  rw [mapOn_get]
  cases cs[i]? <;> simp
theorem mapOn_snoc (g : Int → Ctl → Ctl) (hg : ∀ k c, g k (g k c) = g k c) (cs : List Ctl) (t : List Int) (o : Int) (ho : 0 ≤ o) : mapOn g cs (t ++ [o]) = (mapOn g cs t).modify o.toNat (g o) := by
  apply List.ext_getElem?
  intro i
  rw [mapOn_get, List.getElem?_modify, mapOn_get]
  by_cases e : o.toNat = i
  · have e' : (i : Int) = o := by omega
    cases cs[i]? with
    | none => rfl
    | some c =>
      show some _ = some _
      dsimp only
      rw [if_pos e, e', if_pos (List.mem_append_right _ List.mem_cons_self)]
      by_cases h : o ∈ t
      · rw [if_pos h, hg]
      · rw [if_neg h]
  · have e' : ¬ (i : Int) = o := by omega
    cases cs[i]? with
    | none => rfl
    | some c => simp [e', e]
theorem mapOn_congr (g h : Int → Ctl → Ctl) (cs : List Ctl) (os : List Int) (hgh : ∀ o ∈ os, ∀ c, g o c = h o c) : mapOn g cs os = mapOn h cs os := by
  apply List.ext_getElem?
  intro i
  rw [mapOn_get, mapOn_get]
  cases cs[i]? with
  | none => rfl
  | some c =>
    simp only [Option.map_some]
    by_cases e : (i : Int) ∈ os
    · rw [if_pos e, if_pos e, hgh _ e]
    · rw [if_neg e, if_neg e]
theorem mapOn_mapOn (g h : Int → Ctl → Ctl) (cs : List Ctl) (os : List Int) : mapOn g (mapOn h cs os) os = mapOn (fun k c => g k (h k c)) cs os := by
  apply List.ext_getElem?
  intro i
  rw [mapOn_get, mapOn_get, mapOn_get]
  cases cs[i]? with
  | none => rfl
  | some c =>
    simp only [Option.map_some]
    by_cases e : (i : Int) ∈ os
    · rw [if_pos e, if_pos e, if_pos e]
    · rw [if_neg e, if_neg e, if_neg e]
def ct (cs : List Ctl) (k : Int) : Ctl := cs.getD k.toNat default
theorem ct_mapOn (g : Int → Ctl → Ctl) (cs : List Ctl) (os : List Int) (k : Int) (h0 : 0 ≤ k) (h1 : k < (cs.length : Int)) : ct (mapOn g cs os) k = if k ∈ os then g k (ct cs k) else ct cs k := by
  unfold ct
  rw [List.getD_eq_getElem?_getD, List.getD_eq_getElem?_getD, mapOn_get, List.getElem?_eq_getElem (by omega)]
  simp only [Option.map_some, Option.getD_some]
  rw [show ((k.toNat : Nat) : Int) = k from by omega]
def selB (cs : List Ctl) (k : Int) : Bool := (ct cs k).selected
/-- of some just that one is selected -/
def onlyG (p : Int) (k : Int) (c : Ctl) : Ctl := { c with selected := decide (k = p) }
def onlyP (cs : List Ctl) (os : List Int) (p : Int) : List Ctl := mapOn (onlyG p) cs os

def hasA (nm : List UInt8) (a : List Attr) : Bool := (fval nm a).isSome
def offP (l : List Nd) (o : Int) : Bool := hasA nDisabled (nd l o).attrs || (decide (0 ≤ (nd l o).parent) && kN l (nd l o).parent == 33 && hasA nDisabled (nd l (nd l o).parent).attrs)
def sizeN (a : List Attr) : Int := if ((fval nSize a).getD []).length ≤ 4 ∧ allDig ((fval nSize a).getD []) = true then (val ((fval nSize a).getD []) : Int) else 0
def sizeP (l : List Nd) (sel : Int) : Int := if 0 < sizeN (nd l sel).attrs then sizeN (nd l sel).attrs else if hasA nMultiple (nd l sel).attrs then 4 else 1
def textP (l : List Nd) (o : Int) : List UInt8 := (nd l o).text ++ (nd l o).kids.flatMap (fun k => (nd l k).text)
def valueP (l : List Nd) (o : Int) : List UInt8 := match fval nValue (nd l o).attrs with | some s => s | none => collapseS (textP l o)
def isP (l : List Nd) (k kind : Int) : Bool := decide (0 ≤ k) && decide (k < (l.length : Int)) && (kN l k == kind) && rightB l
def listP (l : List Nd) (sel : Int) : List Int := if isP l sel 23 then optsP l sel else []
def OffP (l : List Nd) (o : Int) : Bool := isP l o 32 && offP l o
def SizeP (l : List Nd) (sel : Int) : Int := if isP l sel 23 then sizeP l sel else 0
def TextP (l : List Nd) (o : Int) : List UInt8 := if isP l o 32 then valueP l o else []
def docR (l : List Nd) (cs : List Ctl) : Bool := decide (l.length = cs.length) && rightB l

def lastP (cs : List Ctl) (os : List Int) : Int := os.foldl (fun p o => if selB cs o then o else p) (-1)
def firstP (l : List Nd) (os : List Int) : Int := os.foldl (fun p o => if p < 0 ∧ offP l o = false then o else p) (-1)
def pickP (l : List Nd) (cs : List Ctl) (sel : Int) : Int := if lastP cs (optsP l sel) < 0 ∧ sizeP l sel = 1 then firstP l (optsP l sel) else lastP cs (optsP l sel)
def fixC (l : List Nd) (cs : List Ctl) (sel : Int) : List Ctl := if hasA nMultiple (nd l sel).attrs then cs else onlyP cs (optsP l sel) (pickP l cs sel)
def FixP (l : List Nd) (cs : List Ctl) (sel : Int) : List Ctl := if docR l cs then (if isP l sel 23 then fixC l cs sel else cs) else []
def firstSel (cs : List Ctl) (os : List Int) : Option Int := os.find? (selB cs)
def selValue (l : List Nd) (cs : List Ctl) (sel : Int) : List UInt8 := match firstSel cs (optsP l sel) with | some o => valueP l o | none => []
def ValueP (l : List Nd) (cs : List Ctl) (sel : Int) : List UInt8 := if docR l cs = true ∧ isP l sel 23 = true then selValue l cs sel else []
def chooseG (opt k : Int) (c : Ctl) : Ctl := { c with selected := decide (k = opt), dselected := true }
def chooseP (l : List Nd) (cs : List Ctl) (opt : Int) (on : Bool) : List Ctl × Int :=
  if docR l cs = false ∨ isP l opt 32 = false ∨ ownerP l opt < 0 then ([], 4)
  else if offP l opt then ([], 8)
  else if hasA nMultiple (nd l (ownerP l opt)).attrs then (cs.modify opt.toNat (fun c => { c with selected := on, dselected := true }), 0)
  else (mapOn (chooseG opt) cs (optsP l (ownerP l opt)), 0)
def pickT (l : List Nd) (os : List Int) (s : List UInt8) : Int := os.foldl (fun p o => if p < 0 ∧ valueP l o = s then o else p) (-1)
def writeG (p k : Int) (c : Ctl) : Ctl := { c with selected := decide (k = p), dselected := c.dselected || decide (k = p) }
def writeP (l : List Nd) (cs : List Ctl) (sel : Int) (s : List UInt8) : List Ctl :=
  if docR l cs then (if isP l sel 23 then mapOn (writeG (pickT l (optsP l sel) s)) cs (optsP l sel) else cs) else []
def resetG (l : List Nd) (k : Int) (c : Ctl) : Ctl := { c with selected := hasA nSelected (nd l k).attrs, dselected := false }
def resetP (l : List Nd) (cs : List Ctl) (sel : Int) : List Ctl :=
  if docR l cs then (if isP l sel 23 then fixC l (mapOn (resetG l) cs (optsP l sel)) sel else cs) else []

/-! ### options -/
theorem kids_nodup {l : List Nd} (h : Rt l) (k : Int) (hk : inR l k) : (nd l k).kids.Nodup := by
  rw [List.nodup_iff_count]
  intro c
  by_cases hc : c ∈ (nd l k).kids
  · obtain ⟨c1, c2⟩ := h.kid k c hk hc
    have := h.once c c1 (by rw [c2]; exact hk.1)
    rw [c2] at this
    omega
  · rw [List.count_eq_zero.2 hc]; omega
theorem inner_mem {l : List Nd} (h : Rt l) (k : Int) (hk : inR l k) (o : Int) (ho : o ∈ innerP l k) : inR l o ∧ optB l o = true ∧ (o = k ∨ (nd l o).parent = k) := by
  unfold innerP at ho
  obtain ⟨h1, h2⟩ := List.mem_filter.1 ho
  split at h1
  · obtain ⟨a, b⟩ := h.kid k o hk h1
    exact ⟨a, h2, Or.inr b⟩
  · rw [List.mem_singleton] at h1
    subst h1
    exact ⟨hk, h2, Or.inl rfl⟩
theorem opts_mem {l : List Nd} (h : Rt l) (sel : Int) (hs : inR l sel) (o : Int) (ho : o ∈ optsP l sel) : inR l o ∧ optB l o = true := by
  unfold optsP at ho
  obtain ⟨k, hk, ho⟩ := List.mem_flatMap.1 ho
  obtain ⟨k1, _⟩ := h.kid sel k hs hk
  obtain ⟨a, b, _⟩ := inner_mem h k k1 o ho
  exact ⟨a, b⟩
theorem flat_nodup (a : List Int) (f : Int → List Int) (ha : a.Nodup) (hf : ∀ x ∈ a, (f x).Nodup) (hd : ∀ x ∈ a, ∀ y ∈ a, x ≠ y → ∀ z ∈ f x, z ∉ f y) : (a.flatMap f).Nodup := by
  induction a with
  | nil => exact List.nodup_nil
  | cons x r ih =>
    rw [List.flatMap_cons, List.nodup_append]
    refine ⟨hf x List.mem_cons_self, ih (List.nodup_cons.1 ha).2 (fun y hy => hf y (List.mem_cons_of_mem _ hy)) (fun y hy z hz => hd y (List.mem_cons_of_mem _ hy) z (List.mem_cons_of_mem _ hz)), ?_⟩
    intro z hz w hw e
    obtain ⟨y, hy, hw⟩ := List.mem_flatMap.1 hw
    have hxy : x ≠ y := fun e2 => (List.nodup_cons.1 ha).1 (e2 ▸ hy)
    exact hd x List.mem_cons_self y (List.mem_cons_of_mem _ hy) hxy z hz (e ▸ hw)
theorem opts_nodup {l : List Nd} (h : Rt l) (sel : Int) (hs : inR l sel) : (optsP l sel).Nodup := by
  unfold optsP
  refine flat_nodup _ _ (kids_nodup h sel hs) ?_ ?_
  · intro k hk
    obtain ⟨k1, _⟩ := h.kid sel k hs hk
    unfold innerP
    refine List.Pairwise.filter _ ?_
    split
    · exact kids_nodup h k k1
    · simp
  · intro x hx y hy hxy z hz hw
    obtain ⟨x1, x2⟩ := h.kid sel x hs hx
    obtain ⟨y1, y2⟩ := h.kid sel y hs hy
    have dx := dep_kid h x x1
    have dy := dep_kid h y y1
    rw [x2] at dx
    rw [y2] at dy
    obtain ⟨z1, _, e1⟩ := inner_mem h x x1 z hz
    obtain ⟨_, _, e2⟩ := inner_mem h y y1 z hw
    have dz := dep_kid h z z1
    rcases e1 with rfl | e1
    · rcases e2 with e2 | e2
      · exact hxy e2
      · rw [e2] at dz; omega
    · rcases e2 with rfl | e2
      · rw [e1] at dz; omega
      · exact hxy (e1.symm.trans e2)
end Go.Proofs.YtoajgfhcongocaaGreatDoor.doc

namespace Go.Proofs.YtoajgfhcongocaaGreatDoor.doc
open Go.Proofs.YtoajgfhcongocaaGreatDoor.atr Go.Proofs.YtoajgfhcongocaaGreatDoor.link Go.Proofs.YtoajgfhcongocaaGreatDoor.ctl Go.Proofs.YtoajgfhcongocaaGreatDoor.num

/-- the last that is so; -1: none -/
def lastF (p : Int → Bool) (os : List Int) : Int := os.foldl (fun a o => if p o then o else a) (-1)
/-- the first -/
def firstF (q : Int → Bool) (os : List Int) : Int := os.foldl (fun a o => if a < 0 ∧ q o = true then o else a) (-1)
theorem last_from (p : Int → Bool) (os : List Int) : ∀ a, ((os.foldl (fun a o => if p o then o else a) a) = a ∧ ∀ o ∈ os, p o = false) ∨ ((os.foldl (fun a o => if p o then o else a) a) ∈ os ∧ p (os.foldl (fun a o => if p o then o else a) a) = true) := by
  induction os with
  | nil => intro a; left; exact ⟨rfl, fun o h => by cases h⟩
  | cons o r ih =>
    intro a
    rw [List.foldl_cons]
    rcases ih (if p o then o else a) with ⟨h1, h2⟩ | ⟨h1, h2⟩
    · cases hp : p o
      · left
        rw [hp] at h1
        refine ⟨by simpa using h1, fun x hx => ?_⟩
        rcases List.mem_cons.1 hx with rfl | hx
        · exact hp
        · exact h2 x hx
      · right
        rw [hp] at h1
        have h1 : r.foldl (fun a o => if p o then o else a) (if true = true then o else a) = o := by simpa using h1
        rw [h1]
        exact ⟨List.mem_cons_self, hp⟩
    · right; exact ⟨List.mem_cons_of_mem _ h1, h2⟩
theorem last_ways (p : Int → Bool) (os : List Int) : (lastF p os = -1 ∧ ∀ o ∈ os, p o = false) ∨ (lastF p os ∈ os ∧ p (lastF p os) = true) := last_from p os (-1)
theorem last_snoc (p : Int → Bool) (t : List Int) (o : Int) : lastF p (t ++ [o]) = if p o then o else lastF p t := by unfold lastF; rw [List.foldl_append]; rfl
theorem first_stay (q : Int → Bool) (os : List Int) (a : Int) (ha : 0 ≤ a) : os.foldl (fun a o => if a < 0 ∧ q o = true then o else a) a = a := by
  induction os with
  | nil => rfl
  | cons o r ih => rw [List.foldl_cons, if_neg (by omega)]; exact ih
theorem first_cons (q : Int → Bool) (o : Int) (r : List Int) (ho : 0 ≤ o) : firstF q (o :: r) = if q o then o else firstF q r := by
  unfold firstF
  rw [List.foldl_cons]
  cases h : q o
  · rw [if_neg (by simp), if_neg (by simp)]
  · rw [if_pos ⟨by omega, rfl⟩, if_pos rfl, first_stay q r o ho]
theorem first_snoc (q : Int → Bool) (t : List Int) (o : Int) : firstF q (t ++ [o]) = if firstF q t < 0 ∧ q o = true then o else firstF q t := by unfold firstF; rw [List.foldl_append]; rfl
theorem first_ways (q : Int → Bool) (os : List Int) (h0 : ∀ o ∈ os, 0 ≤ o) : (firstF q os = -1 ∧ ∀ o ∈ os, q o = false) ∨ (firstF q os ∈ os ∧ q (firstF q os) = true) := by
  induction os with
  | nil => left; exact ⟨rfl, fun o h => by cases h⟩
  | cons o r ih =>
    rw [first_cons q o r (h0 o List.mem_cons_self)]
    cases h : q o
    · rw [if_neg (by simp)]
      rcases ih (fun x hx => h0 x (List.mem_cons_of_mem _ hx)) with ⟨h1, h2⟩ | ⟨h1, h2⟩
      · left
        refine ⟨h1, fun x hx => ?_⟩
        rcases List.mem_cons.1 hx with rfl | hx
        · exact h
        · exact h2 x hx
      · right; exact ⟨List.mem_cons_of_mem _ h1, h2⟩
    · rw [if_pos rfl]; right; exact ⟨List.mem_cons_self, h⟩
theorem lastP_is (cs : List Ctl) (os : List Int) : lastP cs os = lastF (selB cs) os := rfl
theorem firstP_is (l : List Nd) (os : List Int) : firstP l os = firstF (fun o => !offP l o) os := by
  unfold firstP firstF
  congr 1
  funext a o
  cases h : offP l o <;> simp [h]
theorem pickT_is (l : List Nd) (os : List Int) (s : List UInt8) : pickT l os s = firstF (fun o => decide (valueP l o = s)) os := by
  unfold pickT firstF
  congr 1
  funext a o
  by_cases h : valueP l o = s <;> simp [h]

/-! ### put right: again nothing changes -/
structure OsFine (cs : List Ctl) (os : List Int) : Prop where
  nodup : os.Nodup
  low : ∀ o ∈ os, 0 ≤ o
  high : ∀ o ∈ os, o < (cs.length : Int)
theorem osFine {l : List Nd} (h : Rt l) (cs : List Ctl) (hc : l.length = cs.length) (sel : Int) (hs : inR l sel) : OsFine cs (optsP l sel) :=
  ⟨opts_nodup h sel hs, fun o ho => (opts_mem h sel hs o ho).1.1, fun o ho => by have := (opts_mem h sel hs o ho).1.2; omega⟩
theorem only_len (cs : List Ctl) (os : List Int) (p : Int) : (onlyP cs os p).length = cs.length := mapOn_len _ _ _
theorem only_sel {cs : List Ctl} {os : List Int} (h : OsFine cs os) (p o : Int) (ho : o ∈ os) : selB (onlyP cs os p) o = decide (o = p) := by
  unfold selB onlyP
  rw [ct_mapOn _ _ _ o (h.low o ho) (h.high o ho), if_pos ho]; rfl
theorem only_only (cs : List Ctl) (os : List Int) (p q : Int) : onlyP (onlyP cs os p) os q = onlyP cs os q := by
  unfold onlyP; rw [mapOn_mapOn]; rfl
theorem last_only {cs : List Ctl} {os : List Int} (h : OsFine cs os) (p : Int) : (p ∈ os → lastP (onlyP cs os p) os = p) ∧ (p = -1 → lastP (onlyP cs os p) os = -1) := by
  rw [lastP_is]
  rcases last_ways (selB (onlyP cs os p)) os with ⟨h1, h2⟩ | ⟨h1, h2⟩
  · refine ⟨fun hp => ?_, fun _ => h1⟩
    have := h2 p hp
    rw [only_sel h p p hp] at this
    simp at this
  · rw [only_sel h p _ h1] at h2
    have h2 := of_decide_eq_true h2
    refine ⟨fun _ => h2, fun hp => ?_⟩
    have := h.low _ h1
    omega
theorem pick_ways (l : List Nd) (cs : List Ctl) (sel : Int) (h : OsFine cs (optsP l sel)) : pickP l cs sel ∈ optsP l sel ∨
    (pickP l cs sel = -1 ∧ (sizeP l sel = 1 → firstP l (optsP l sel) = -1)) := by
  unfold pickP
  rw [lastP_is]
  rcases last_ways (selB cs) (optsP l sel) with ⟨h1, h2⟩ | ⟨h1, h2⟩
  · rw [h1]
    by_cases g : sizeP l sel = 1
    · rw [if_pos ⟨by omega, g⟩, firstP_is]
      rcases first_ways (fun o => !offP l o) (optsP l sel) h.low with ⟨g1, g2⟩ | ⟨g1, g2⟩
      · right; exact ⟨g1, fun _ => g1⟩
      · left; exact g1
    · rw [if_neg (by rintro ⟨_, e⟩; exact g e)]
      right; exact ⟨rfl, fun e => absurd e g⟩
  · left
    have := h.low _ h1
    rw [if_neg (by omega)]; exact h1
theorem fix_again (l : List Nd) (cs : List Ctl) (sel : Int) (h : OsFine cs (optsP l sel)) : fixC l (fixC l cs sel) sel = fixC l cs sel := by
  unfold fixC
  by_cases g : hasA nMultiple (nd l sel).attrs = true
  · rw [if_pos g, if_pos g]
  · rw [if_neg g, if_neg g, only_only]
    have h2 := last_only h (pickP l cs sel)
    have e : pickP l (onlyP cs (optsP l sel) (pickP l cs sel)) sel = pickP l cs sel := by
      rcases pick_ways l cs sel h with g1 | ⟨g1, g2⟩
      · have e1 := h2.1 g1
        have := h.low _ g1
        rw [pickP, e1, if_neg (by omega)]
      · have e1 := h2.2 g1
        rw [pickP, e1]
        by_cases g3 : sizeP l sel = 1
        · rw [if_pos ⟨by omega, g3⟩, g2 g3, g1]
        · rw [if_neg (by rintro ⟨_, e⟩; exact g3 e), g1]
    rw [e]
theorem fixC_len (l : List Nd) (cs : List Ctl) (sel : Int) : (fixC l cs sel).length = cs.length := by
  unfold fixC; split
  · rfl
  · exact only_len _ _ _
theorem docR_iff (l : List Nd) (cs : List Ctl) : docR l cs = true ↔ l.length = cs.length ∧ rightB l = true := by
  unfold docR; rw [Bool.and_eq_true, decide_eq_true_eq]
theorem isP_iff (l : List Nd) (k kind : Int) : isP l k kind = true ↔ inR l k ∧ kN l k = kind ∧ rightB l = true := by
  unfold isP inR; simp only [Bool.and_eq_true, decide_eq_true_eq, beq_iff_eq, and_assoc]
theorem docR_nil (l : List Nd) : docR l [] = false := by
  rw [← Bool.not_eq_true, docR_iff]
  rintro ⟨h1, h2⟩
  have := (right_rt l h2).some1
  rw [h1] at this
  exact absurd this (by decide)
theorem docR_len (l : List Nd) (a b : List Ctl) (h : a.length = b.length) : docR l a = docR l b := by unfold docR; rw [h]
theorem FixP_again (l : List Nd) (cs : List Ctl) (sel : Int) : FixP l (FixP l cs sel) sel = FixP l cs sel := by
  cases hd : docR l cs
  · have e : FixP l cs sel = [] := by unfold FixP; rw [hd]; rfl
    rw [e]; unfold FixP; rw [docR_nil]; rfl
  · have hr := (docR_iff l cs).1 hd
    cases hi : isP l sel 23
    · have e : FixP l cs sel = cs := by unfold FixP; rw [hd, hi]; rfl
      rw [e, e]
    · have e : ∀ c, docR l c = true → FixP l c sel = fixC l c sel := fun c hc => by unfold FixP; rw [hc, hi]; rfl
      obtain ⟨h1, h2, h3⟩ := (isP_iff l sel 23).1 hi
      rw [e cs hd, e _ ((docR_len l _ cs (fixC_len l cs sel)).trans hd)]
      exact fix_again l cs sel (osFine (right_rt l h3) cs hr.1 sel h1)
theorem resetP_fixed (l : List Nd) (cs : List Ctl) (sel : Int) : FixP l (resetP l cs sel) sel = resetP l cs sel := by
  cases hd : docR l cs
  · have e : resetP l cs sel = [] := by unfold resetP; rw [hd]; rfl
    rw [e]; unfold FixP; rw [docR_nil]; rfl
  · have hr := (docR_iff l cs).1 hd
    cases hi : isP l sel 23
    · have e : resetP l cs sel = cs := by unfold resetP; rw [hd, hi]; rfl
      rw [e]; unfold FixP; rw [hd, hi]; rfl
    · obtain ⟨h1, h2, h3⟩ := (isP_iff l sel 23).1 hi
      have e : resetP l cs sel = fixC l (mapOn (resetG l) cs (optsP l sel)) sel := by unfold resetP; rw [hd, hi]; rfl
      rw [e]
      have hl : (fixC l (mapOn (resetG l) cs (optsP l sel)) sel).length = cs.length := by rw [fixC_len, mapOn_len]
      have e2 : FixP l (fixC l (mapOn (resetG l) cs (optsP l sel)) sel) sel = fixC l (fixC l (mapOn (resetG l) cs (optsP l sel)) sel) sel := by
        unfold FixP; rw [(docR_len l _ cs hl).trans hd, hi]; rfl
      rw [e2]
      exact fix_again l _ sel (osFine (right_rt l h3) _ (by rw [mapOn_len]; exact hr.1) sel h1)

/-! ### at most one; just one -/
def selCount (cs : List Ctl) (os : List Int) : Nat := (os.filter (selB cs)).length
theorem one_only {cs : List Ctl} {os : List Int} (h : OsFine cs os) (p : Int) : selCount (onlyP cs os p) os ≤ 1 ∧ (p ∈ os → selCount (onlyP cs os p) os = 1) := by
  have e : selCount (onlyP cs os p) os = os.count p := by
    unfold selCount
    rw [List.count_eq_length_filter, List.filter_congr (q := fun x => x == p)]
    intro o ho
    rw [only_sel h p o ho]
    by_cases g : o = p <;> simp [g]
  rw [e]
  refine ⟨List.nodup_iff_count.1 h.nodup p, fun hp => ?_⟩
  exact Nat.le_antisymm (List.nodup_iff_count.1 h.nodup p) (List.count_pos_iff.2 hp)
theorem fix_one (l : List Nd) (cs : List Ctl) (sel : Int) (h : OsFine cs (optsP l sel)) (hm : hasA nMultiple (nd l sel).attrs = false) :
    selCount (fixC l cs sel) (optsP l sel) ≤ 1 ∧ ((∃ o ∈ optsP l sel, offP l o = false) → sizeP l sel = 1 → selCount (fixC l cs sel) (optsP l sel) ≠ 0) := by
  unfold fixC
  rw [hm, if_neg (by simp)]
  have := one_only h (pickP l cs sel)
  refine ⟨this.1, ?_⟩
  rintro ⟨o, ho, hoff⟩ hs
  rcases pick_ways l cs sel h with g1 | ⟨g1, g2⟩
  · rw [this.2 g1]; omega
  · exfalso
    have := g2 hs
    rw [firstP_is] at this
    rcases first_ways (fun o => !offP l o) (optsP l sel) h.low with ⟨k1, k2⟩ | ⟨k1, k2⟩
    · have := k2 o ho
      rw [hoff] at this; simp at this
    · have := h.low _ k1; omega

/-! ### a program's choice -/
theorem write_value (l : List Nd) (cs : List Ctl) (sel : Int) (s : List UInt8) (hd : docR l cs = true) (hi : isP l sel 23 = true) (hh : ∃ o ∈ optsP l sel, valueP l o = s) :
    ValueP l (writeP l cs sel s) sel = s := by
  have hr := (docR_iff l cs).1 hd
  obtain ⟨h1, h2, h3⟩ := (isP_iff l sel 23).1 hi
  have hf := osFine (right_rt l h3) cs hr.1 sel h1
  have e : writeP l cs sel s = mapOn (writeG (pickT l (optsP l sel) s)) cs (optsP l sel) := by unfold writeP; rw [hd, hi]; rfl
  have hl : (writeP l cs sel s).length = cs.length := by rw [e, mapOn_len]
  unfold ValueP
  rw [if_pos ⟨(docR_len l _ cs hl).trans hd, hi⟩, e]
  have hp : pickT l (optsP l sel) s ∈ optsP l sel ∧ valueP l (pickT l (optsP l sel) s) = s := by
    rw [pickT_is]
    rcases first_ways (fun o => decide (valueP l o = s)) (optsP l sel) hf.low with ⟨k1, k2⟩ | ⟨k1, k2⟩
    · obtain ⟨o, ho, hv⟩ := hh
      have := k2 o ho
      simp [hv] at this
    · exact ⟨k1, of_decide_eq_true k2⟩
  generalize pickT l (optsP l sel) s = p at *
  have hsel : ∀ o ∈ optsP l sel, selB (mapOn (writeG p) cs (optsP l sel)) o = decide (o = p) := by
    intro o ho
    unfold selB
    rw [ct_mapOn _ _ _ o (hf.low o ho) (hf.high o ho), if_pos ho]; rfl
  unfold selValue firstSel
  have : (optsP l sel).find? (selB (mapOn (writeG p) cs (optsP l sel))) = some p := by
    cases hq : (optsP l sel).find? (selB (mapOn (writeG p) cs (optsP l sel))) with
    | none =>
      have := List.find?_eq_none.1 hq p hp.1
      rw [hsel p hp.1] at this; simp at this
    | some o =>
      have h1 := List.find?_some hq
      have h2 := List.mem_of_find?_eq_some hq
      rw [hsel o h2] at h1
      rw [of_decide_eq_true h1]
  rw [this]; exact hp.2
end Go.Proofs.YtoajgfhcongocaaGreatDoor.doc

namespace Go.Proofs.YtoajgfhcongocaaGreatDoor.doc
open Go

theorem opWpIn_round {F : Fence} {n : Nat} {P : Program} {Q : Exit → Act → World → Prop} (l : Nat) (hro : F.round = none) {o : Oper} (hnd : ∀ c, o.op ≠ .defer c) {a : Act} {w : World} {K K' : Act → World → Prop} (hK : ∀ a w, K a w → K' a w) (h : o.wpIn F n P a w K Q) : o.wpIn (F.inRound l) n P a w K' Q := by
  unfold Oper.wpIn at *
  refine ⟨h.1, ?_⟩
  have hh := h.2
  rw [hro] at hh
  have e : (o.semAt (F.inRound l).round a.eval) = o.semAt none a.eval := (Oper.semAt_some l a.eval o hnd).trans rfl
  rw [e]
  generalize (o.semAt none a.eval).run P w = r at *
  cases r with
  | ok x w' =>
    cases x <;> simp only [Oper.uponIn] at hh ⊢ <;>
      first
        | exact hK _ _ hh
        | exact ⟨hh.1, CallsIn.inRound l (CallsIn.mono hh.2 (fun e w'' he => by cases e <;> first | exact hK _ _ he | exact he))⟩
        | exact ⟨hh.1, RowsIn.mono (F := F.inRound l) hh.2 (fun _ _ he => hK _ _ he)⟩
        | exact ⟨hh.1, RoundIn.mono (F := F.inRound l) hh.2 (fun e w'' he => by cases e <;> first | exact hK _ _ he | exact he)⟩
  | halt x w' => cases x <;> simp only [Oper.uponIn] at hh ⊢ <;> exact hh
theorem wpOpIn_round {F : Fence} {n : Nat} {P : Program} {ops : Array Oper} {Q : Exit → Act → World → Prop} (l : Nat) (hro : F.round = none) (hnd : ∀ (i : Nat) (o : Oper), ops[i]? = some o → ∀ c, o.op ≠ .defer c) {i : Nat} {a : Act} {w : World} {K K' : Act → World → Prop} (hK : ∀ a w, K a w → K' a w)
    (h : wpOpIn F n P ops Q i K a w) : wpOpIn (F.inRound l) n P ops Q i K' a w := by
  unfold wpOpIn at *
  split
  · exact hK _ _ (by simpa [*] using h)
  · rename_i o ho
    simp only [ho] at h
    split
    · rename_i hw; simp only [hw, if_true] at h; exact opWpIn_round l hro (hnd i o ho) hK h
    · rename_i hw; simp only [hw] at h; exact ⟨h.1, hK _ _ h.2⟩
theorem wpAnyIn_round {F : Fence} {n : Nat} {P : Program} {ops : Array Oper} {Q : Exit → Act → World → Prop} {md : Region.Mode} (l : Nat) (hro : F.round = none) (hnd : ∀ (i : Nat) (o : Oper), ops[i]? = some o → ∀ c, o.op ≠ .defer c) :
    ∀ (fuel : Nat) (listed : Array Bool) (a : Act) (w : World), wpAnyIn F n P md ops Q fuel listed a w → wpAnyIn (F.inRound l) n P md ops Q fuel listed a w := by
  intro fuel
  induction fuel with
  | zero => intro listed a w h; exact h
  | succ k ih => intro listed a w h; exact ⟨h.1, fun i hi => wpOpIn_round l hro hnd (fun a w hk => ih _ a w hk) (h.2 i hi)⟩
def isDefer (o : Oper) : Bool := match o.op with | .defer _ => true | _ => false
theorem not_defer {ops : List Oper} (h : ops.all (fun o => !isDefer o) = true) : ∀ (i : Nat) (o : Oper), ops.toArray[i]? = some o → ∀ c, o.op ≠ .defer c := by
  intro i o hi c e
  have := List.all_eq_true.1 h o (by
    rw [List.getElem?_toArray] at hi
    exact List.mem_of_getElem? hi)
  unfold isDefer at this
  rw [e] at this
  cases this
/-- into the orders, no round any more -/
theorem wpIn_round_any {F : Fence} {n : Nat} {P : Program} {ops : List Oper} {Q : Exit → Act → World → Prop} {id l : Nat} {a : Act} {w : World} (hm : P.follows .mixedOrders = true) (hro : F.round = none) (hnd : ops.all (fun o => !isDefer o) = true)
    (h : wpAnyIn F n P .any ops.toArray Q ops.toArray.size (Array.replicate ops.toArray.size false) a w.drew) : (Code.region id ops.toArray true).wpIn (F.inRound l) n P Q a w :=
  wpIn_region_any hm (wpAnyIn_round l hro (not_defer hnd) _ _ _ _ h)
end Go.Proofs.YtoajgfhcongocaaGreatDoor.doc
