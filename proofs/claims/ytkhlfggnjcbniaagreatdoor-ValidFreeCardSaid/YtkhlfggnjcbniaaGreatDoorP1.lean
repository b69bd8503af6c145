/- A part of the proofs: lemmas and contracts. -/
import Derived.Deep.Fields
import Derived.Lib.Hide
import Derived.Lib.ItoaNum
import Derived.Lib.SlTrimSet
import Derived.ProofKit
import Derived.SizedLaws
import Derived.WalkKit
import Derived.Test.YtkhlfggnjcbniaaGreatDoorRows
set_option maxHeartbeats 12800000
set_option maxRecDepth 1000000
namespace Go.Proofs.YtkhlfggnjcbniaaGreatDoor.atr

abbrev Attr := List UInt8 × List UInt8
def fidx (nm : List UInt8) : List Attr → Nat
 | [] => 0
 | a :: r => if a.1 = nm then 0 else fidx nm r + 1
def fval (nm : List UInt8) : List Attr → Option (List UInt8)
 | [] => none
 | a :: r => if a.1 = nm then some a.2 else fval nm r
def fint (nm : List UInt8) (l : List Attr) : Int := if fidx nm l < l.length then (fidx nm l : Int) else -1

theorem find_ways (nm : List UInt8) (l : List Attr) : (∃ (k : Nat) (h : k < l.length), fidx nm l = k ∧ l[k].1 = nm ∧ (∀ j (hj : j < k), l[j].1 ≠ nm) ∧ fval nm l = some l[k].2) ∨ (fidx nm l = l.length ∧ (∀ j (hj : j < l.length), l[j].1 ≠ nm) ∧ fval nm l = none) := by
 induction l with
 | nil => right; exact ⟨rfl, fun j hj => absurd hj (Nat.not_lt_zero _), rfl⟩
 | cons a r ih =>
  by_cases h : a.1 = nm
  ·left
   exact ⟨0, Nat.succ_pos _, by rw [fidx, if_pos h], h, fun j hj => absurd hj (Nat.not_lt_zero _), by rw [fval, if_pos h]; rfl⟩
  ·rcases ih with ⟨k, hk, h1, h2, h3, h4⟩ | ⟨h1, h2, h3⟩
   ·left
    refine ⟨k + 1, Nat.succ_lt_succ hk, by rw [fidx, if_neg h, h1], h2, ?_, by rw [fval, if_neg h, h4]; rfl⟩
    intro j hj
    cases j with
    | zero => exact h
    | succ j => exact h3 j (by omega)
   ·right
    refine ⟨by rw [fidx, if_neg h, h1]; rfl, ?_, by rw [fval, if_neg h, h3]⟩
    intro j hj
    cases j with
    | zero => exact h
    | succ j => exact h2 j (by simpa using hj)

def nMin : List UInt8 := [109, 105, 110]
def nMax : List UInt8 := [109, 97, 120]
def nStep : List UInt8 := [115, 116, 101, 112]
def nValue : List UInt8 := [118, 97, 108, 117, 101]
def nAny : List UInt8 := [97, 110, 121]
def nDisabled : List UInt8 := [100, 105, 115, 97, 98, 108, 101, 100]
def nType : List UInt8 := [116, 121, 112, 101]
end Go.Proofs.YtkhlfggnjcbniaaGreatDoor.atr
namespace Go.Proofs.YtkhlfggnjcbniaaGreatDoor.doc
open atr

structure Nd where
 name : List UInt8
 text : List UInt8
 attrs : List Attr
 parent : Int
 kids : List Int
instance : Inhabited Nd := ⟨⟨[], [], [], -1, []⟩⟩
def nd (l : List Nd) (k : Int) : Nd := l.getD k.toNat default
theorem nd_cast (l : List Nd) (k : Nat) (h : k < l.length) : nd l k = l[k] := by
 show l.getD (k : Int).toNat default = _
 rw [Int.toNat_natCast, List.getD_eq_getElem?_getD, List.getElem?_eq_getElem h]; rfl

def smallC (c : UInt8) : Bool := decide (97 ≤ c.toNat) && decide (c.toNat ≤ 122)
def digitC (c : UInt8) : Bool := decide (48 ≤ c.toNat) && decide (c.toNat ≤ 57)
def okC (c : UInt8) : Bool := smallC c || digitC c || c == 45
def namedP : List UInt8 → Bool
 | [] => false
 | c :: r => smallC c && r.all okC && decide (r.length + 1 ≤ 20)
def atA (a : List Attr) (i : Nat) : Attr := a.getD i ([], [])
def attrB1 (a : List Attr) (i : Nat) : Bool := namedP (atA a i).1 && decide ((atA a i).2.length ≤ 4000) && fidx (atA a i).1 a == i
def attrsOk (a : List Attr) : Bool := (List.range a.length).all (attrB1 a)
def aloneP (n : Nd) : Bool :=
 if n.name = [] then n.attrs.isEmpty && n.kids.isEmpty && decide (n.text.length ≤ 4000)
 else namedP n.name && n.text.isEmpty && decide (n.attrs.length ≤ 40) && attrsOk n.attrs
def kidB (l : List Nd) (i c : Int) : Bool := decide (0 ≤ c) && decide (c < (l.length : Int)) && decide ((nd l c).parent = i)
def kidsB (l : List Nd) (i : Int) : Bool := (nd l i).kids.all (kidB l i)
def onceB (l : List Nd) (i : Int) : Bool := decide ((nd l i).parent < 0) || (nd l (nd l i).parent).kids.count i == 1
def rangeB (l : List Nd) (i : Int) : Bool := decide (-1 ≤ (nd l i).parent) && decide ((nd l i).parent < (l.length : Int))
def nodeB (l : List Nd) (i : Int) : Bool := aloneP (nd l i) && rangeB l i && onceB l i && kidsB l i
def climb (l : List Nd) : Nat → Int → Int
 | 0, k => k
 | n + 1, k => if k < 0 then k else climb l n (nd l k).parent
def headB (l : List Nd) : Bool := decide (1 ≤ l.length) && decide (l.length ≤ 400) && !(nd l 0).name.isEmpty && decide ((nd l 0).parent = -1)
def nodesB (l : List Nd) : Bool := (List.range l.length).all (fun i => nodeB l i)
def climbsB (l : List Nd) : Bool := (List.range l.length).all (fun i => decide (climb l (l.length + 1) i < 0))
def rightB (l : List Nd) : Bool := headB l && nodesB l && climbsB l

theorem nodup_len : ∀ (a b : List Int), a.Nodup → (∀ x ∈ a, x ∈ b) → a.length ≤ b.length := by
 intro a
 induction a with
 | nil => intro b _ _; exact Nat.zero_le _
 | cons x r ih =>
  intro b hn hs
  have hx : x ∈ b := hs x List.mem_cons_self
  have h1 := ih (b.erase x) (List.nodup_cons.1 hn).2 (fun y hy => by
   have hne : y ≠ x := fun e => (List.nodup_cons.1 hn).1 (e ▸ hy)
   exact (List.mem_erase_of_ne hne).2 (hs y (List.mem_cons_of_mem _ hy)))
  rw [List.length_erase_of_mem hx] at h1
  have : 0 < b.length := List.length_pos_of_mem hx
  simp; omega
theorem nodup_onto (a b : List Int) (ha : a.Nodup) (hs : ∀ x ∈ a, x ∈ b) (hl : b.length ≤ a.length) : ∀ y ∈ b, y ∈ a := by
 intro y hy
 by_cases h : y ∈ a
 ·exact h
 ·exfalso
  have := nodup_len (y :: a) b (List.nodup_cons.2 ⟨h, ha⟩) (fun x hx => by
   rcases List.mem_cons.1 hx with rfl | hx
   ·exact hy
   ·exact hs x hx)
  simp at this; omega

theorem sub_flat {α : Type} (a : List α) (f : α → List Int) (x : α) (h : x ∈ a) : (f x).Sublist (a.flatMap f) := by
 induction a with
 | nil => cases h
 | cons y r ih =>
  rw [List.flatMap_cons]
  rcases List.mem_cons.1 h with rfl | h
  ·exact List.sublist_append_left _ _
  ·exact (ih h).trans (List.sublist_append_right _ _)

def kidsTo (l : List Nd) (i : Nat) : List Int := (List.range i).flatMap (fun j : Nat => (nd l j).kids)
def parTo (l : List Nd) (i : Nat) : List Int := ((List.range i).filter (fun j : Nat => decide (0 ≤ (nd l j).parent))).map (fun j : Nat => (j : Int))
theorem kidsTo_succ (l : List Nd) (i : Nat) : kidsTo l (i + 1) = kidsTo l i ++ (nd l i).kids := by
 unfold kidsTo; rw [List.range_succ, List.flatMap_append]; simp
theorem parTo_succ (l : List Nd) (i : Nat) : (parTo l (i + 1)).length = (parTo l i).length + if 0 ≤ (nd l i).parent then 1 else 0 := by
 unfold parTo
 rw [List.range_succ, List.filter_append, List.map_append, List.length_append]
 by_cases h : 0 ≤ (nd l i).parent
 ·rw [if_pos h, List.filter_cons, if_pos (by simpa using h)]; rfl
 ·rw [if_neg h, List.filter_cons, if_neg (by simpa using h)]; rfl
theorem mem_kidsTo (l : List Nd) (i : Nat) (c : Int) : c ∈ kidsTo l i ↔ ∃ j : Nat, j < i ∧ c ∈ (nd l j).kids := by
 unfold kidsTo; rw [List.mem_flatMap]
 constructor
 ·rintro ⟨j, hj, h⟩; exact ⟨j, List.mem_range.1 hj, h⟩
 ·rintro ⟨j, hj, h⟩; exact ⟨j, List.mem_range.2 hj, h⟩
theorem mem_parTo (l : List Nd) (i : Nat) (c : Int) : c ∈ parTo l i ↔ ∃ j : Nat, j < i ∧ c = j ∧ 0 ≤ (nd l j).parent := by
 unfold parTo; rw [List.mem_map]
 constructor
 ·rintro ⟨j, hj, rfl⟩
  have := List.mem_filter.1 hj
  exact ⟨j, List.mem_range.1 this.1, rfl, by simpa using this.2⟩
 ·rintro ⟨j, hj, rfl, h⟩; exact ⟨j, List.mem_filter.2 ⟨List.mem_range.2 hj, by simpa using h⟩, rfl⟩
theorem parTo_nodup (l : List Nd) (i : Nat) : (parTo l i).Nodup := by
 unfold parTo
 rw [List.Nodup, List.pairwise_map]
 have h : ((List.range i).filter (fun j : Nat => decide (0 ≤ (nd l j).parent))).Nodup := List.Pairwise.filter _ List.nodup_range
 exact h.imp (fun {a b} g e => g (by exact_mod_cast e))

def KidsFine (l : List Nd) (i : Nat) : Prop := ∀ j : Nat, j < i → kidsB l j = true
theorem kid_of (l : List Nd) (i c : Int) (h : kidB l i c = true) : 0 ≤ c ∧ c < (l.length : Int) ∧ (nd l c).parent = i := by
 unfold kidB at h
 rw [Bool.and_eq_true, Bool.and_eq_true, decide_eq_true_eq, decide_eq_true_eq, decide_eq_true_eq] at h
 exact ⟨h.1.1, h.1.2, h.2⟩
theorem kidsB_mem (l : List Nd) (i c : Int) (h : kidsB l i = true) (hc : c ∈ (nd l i).kids) : 0 ≤ c ∧ c < (l.length : Int) ∧ (nd l c).parent = i :=
 kid_of l i c (List.all_eq_true.1 h c hc)

theorem met_all (l : List Nd) (hk : KidsFine l l.length) (hn : (kidsTo l l.length).Nodup) (hr : ∀ i : Nat, i < l.length → rangeB l i = true) :
  (parTo l l.length).length = (kidsTo l l.length).length ↔ ∀ i : Nat, i < l.length → onceB l i = true := by
 have hsub : ∀ x ∈ kidsTo l l.length, x ∈ parTo l l.length := by
  intro x hx
  obtain ⟨j, hj, hx⟩ := (mem_kidsTo l _ x).1 hx
  obtain ⟨h1, h2, h3⟩ := kidsB_mem l j x (hk j hj) hx
  refine (mem_parTo l _ x).2 ⟨x.toNat, by omega, by omega, ?_⟩
  rw [show ((x.toNat : Nat) : Int) = x from by omega, h3]; omega
 have hcnt : ∀ (j : Nat) (x : Int), j < l.length → x ∈ (nd l j).kids → (nd l j).kids.count x = 1 := by
  intro j x hj hx
  have hs : (nd l j).kids.Nodup := by
   have : (nd l j).kids.Sublist (kidsTo l l.length) := by
    unfold kidsTo
    exact sub_flat (List.range l.length) (fun j : Nat => (nd l j).kids) j (List.mem_range.2 hj)
   exact hn.sublist this
  exact Nat.le_antisymm (List.nodup_iff_count.1 hs x) (List.count_pos_iff.2 hx)
 constructor
 ·intro he i hi
  unfold onceB
  by_cases hp : (nd l i).parent < 0
  ·rw [decide_eq_true hp]; rfl
  ·have hin := nodup_onto _ _ hn hsub (by omega) (i : Int) ((mem_parTo l _ _).2 ⟨i, hi, rfl, by omega⟩)
   obtain ⟨j, hj, hx⟩ := (mem_kidsTo l _ _).1 hin
   obtain ⟨_, _, h3⟩ := kidsB_mem l j i (hk j hj) hx
   rw [h3, hcnt j i hj hx]; simp
 ·intro h
  refine Nat.le_antisymm ?_ (nodup_len _ _ hn hsub)
  refine nodup_len _ _ (parTo_nodup l _) ?_
  intro x hx
  obtain ⟨j, hj, rfl, hp⟩ := (mem_parTo l _ _).1 hx
  have h1 := h j hj
  have h2 := hr j hj
  unfold onceB at h1
  unfold rangeB at h2
  rw [decide_eq_false (by omega)] at h1
  have h1 : (nd l (nd l j).parent).kids.count (j : Int) = 1 := by simpa using h1
  have h2 : (nd l j).parent < (l.length : Int) := by
   rw [Bool.and_eq_true, decide_eq_true_eq, decide_eq_true_eq] at h2; exact h2.2
  refine (mem_kidsTo l _ _).2 ⟨(nd l j).parent.toNat, by omega, ?_⟩
  rw [show (((nd l j).parent.toNat : Nat) : Int) = (nd l j).parent from by omega]
  exact List.count_pos_iff.1 (by omega)
theorem met_twice (l : List Nd) (i m : Nat) (hi : i < l.length) (hm : m < (nd l i).kids.length) (hk : KidsFine l i) (c : Int) (hc : (nd l i).kids[m]? = some c)
  (hin : c ∈ kidsTo l i ∨ c ∈ (nd l i).kids.take m) : nodesB l = false := by
 rw [← Bool.not_eq_true]
 intro hall
 have hnode : ∀ j : Nat, j < l.length → nodeB l j = true := fun j hj => List.all_eq_true.1 hall j (List.mem_range.2 hj)
 have hki := hnode i hi
 unfold nodeB at hki
 have hki := (Bool.and_eq_true _ _ ▸ hki).2
 have hcm : c ∈ (nd l i).kids := List.mem_of_getElem? hc
 obtain ⟨h1, h2, h3⟩ := kidsB_mem l i c hki hcm
 rcases hin with hin | hin
 ·obtain ⟨j, hj, hx⟩ := (mem_kidsTo l _ _).1 hin
  obtain ⟨_, _, h4⟩ := kidsB_mem l j c (hk j hj) hx
  omega
 ·have hkc := hnode c.toNat (by omega)
  rw [show ((c.toNat : Nat) : Int) = c from by omega] at hkc
  unfold nodeB at hkc
  have hoc : onceB l c = true := (Bool.and_eq_true _ _ ▸ (Bool.and_eq_true _ _ ▸ hkc).1).2
  unfold onceB at hoc
  rw [h3, decide_eq_false (by omega)] at hoc
  have hoc : (nd l i).kids.count c = 1 := by simpa using hoc
  have e : (nd l i).kids = (nd l i).kids.take m ++ c :: (nd l i).kids.drop (m + 1) := by
   have e1 := (List.take_append_drop m (nd l i).kids).symm
   rw [List.drop_eq_getElem_cons hm] at e1
   have e2 : (nd l i).kids[m] = c := by rw [List.getElem?_eq_getElem hm] at hc; exact Option.some.inj hc
   rw [e2] at e1
   exact e1
  rw [e, List.count_append, List.count_cons_self] at hoc
  have := List.count_pos_iff.2 hin
  omega
end Go.Proofs.YtkhlfggnjcbniaaGreatDoor.doc
namespace Go.Proofs.YtkhlfggnjcbniaaGreatDoor.ctl

structure Ent where
 name : List UInt8
 value : List UInt8
 file : Bool
 fname : List UInt8
 typ : List UInt8
instance : Inhabited Ent := ⟨⟨[], [], false, [], []⟩⟩
structure Ctl where
 value : List UInt8
 dirty : Bool
 typed : Bool
 checked : Bool
 dchecked : Bool
 mixed : Bool
 selected : Bool
 dselected : Bool
 custom : List UInt8
 files : List Ent
instance : Inhabited Ctl := ⟨⟨[], false, false, false, false, false, false, false, [], []⟩⟩
end Go.Proofs.YtkhlfggnjcbniaaGreatDoor.ctl
namespace Go.Proofs.YtkhlfggnjcbniaaGreatDoor.num
open Go.Lib

def isDig (c : UInt8) : Bool := 48 ≤ c && c ≤ 57
def allDig (l : List UInt8) : Bool := l.all isDig
def cnt : List UInt8 → Nat
 | [] => 0
 | c :: l => if isDig c then cnt l + 1 else 0

theorem isDig_iff (c : UInt8) : isDig c = true ↔ 48 ≤ (c.toNat : Int) ∧ (c.toNat : Int) ≤ 57 := by
 unfold isDig
 simp [UInt8.le_iff_toNat_le]; omega
theorem isDig_no (c : UInt8) (h : isDig c = false) : (c.toNat : Int) < 48 ∨ 57 < (c.toNat : Int) := by
 have := isDig_iff c
 rw [h] at this
 simp at this; omega

theorem cnt_le (l : List UInt8) : cnt l ≤ l.length := by
 induction l with
 | nil => exact Nat.le_refl _
 | cons c l ih => unfold cnt; split <;> simp <;> omega

theorem allDig_cons (c : UInt8) (l : List UInt8) : allDig (c :: l) = (isDig c && allDig l) := rfl

theorem cnt_all (l : List UInt8) : cnt l = l.length ↔ allDig l = true := by
 induction l with
 | nil => simp [cnt, allDig]
 | cons c l ih =>
  have := cnt_le l
  rw [allDig_cons]
  unfold cnt
  cases h : isDig c
  ·simp
  ·simp [ih]

theorem cnt_take (l : List UInt8) : allDig (l.take (cnt l)) = true := by
 induction l with
 | nil => rfl
 | cons c l ih =>
  unfold cnt
  cases h : isDig c
  ·simp [allDig]
  ·simp [allDig_cons, h, ih]

theorem cnt_next (l : List UInt8) (c : UInt8) (r : List UInt8) (h : l.drop (cnt l) = c :: r) : isDig c = false := by
 induction l with
 | nil => simp [cnt] at h
 | cons d l ih =>
  unfold cnt at h
  cases hd : isDig d
  ·simp [hd] at h; rw [← h.1]; exact hd
  ·simp [hd] at h; exact ih h

theorem cnt_append (a b : List UInt8) (ha : allDig a = true) : cnt (a ++ b) = a.length + cnt b := by
 induction a with
 | nil => simp
 | cons c a ih =>
  rw [allDig_cons] at ha
  simp at ha
  simp [cnt, ha.1, ih ha.2]; omega

@[irreducible] def dv (c : UInt8) : Nat := c.toNat - 48
theorem dv_eq (c : UInt8) : dv c = c.toNat - 48 := by unfold dv; rfl
def valFrom (a : Nat) : List UInt8 → Nat
 | [] => a
 | c :: l => valFrom (a * 10 + dv c) l
def val (l : List UInt8) : Nat := valFrom 0 l

theorem valFrom_cons (a : Nat) (c : UInt8) (l : List UInt8) : valFrom a (c :: l) = valFrom (a * 10 + dv c) l := rfl
theorem valFrom_append (a : Nat) (l m : List UInt8) : valFrom a (l ++ m) = valFrom (valFrom a l) m := by
 induction l generalizing a with
 | nil => rfl
 | cons c l ih => rw [List.cons_append, valFrom_cons, valFrom_cons, ih]
theorem valFrom_mul (l : List UInt8) : ∀ a : Nat, valFrom a l = a * 10 ^ l.length + val l := by
 induction l with
 | nil => intro a; simp [valFrom, val]
 | cons c l ih =>
  intro a
  unfold val
  rw [valFrom_cons, valFrom_cons, ih, ih, List.length_cons, Nat.pow_succ]
  generalize 10 ^ l.length = p
  generalize dv c = d
  rw [Nat.add_mul, Nat.add_mul, Nat.zero_mul, Nat.zero_add, Nat.mul_assoc, Nat.mul_comm 10 p, Nat.add_assoc]
theorem valFrom_ge (a : Nat) (l : List UInt8) : a ≤ valFrom a l := by
 rw [valFrom_mul]
 have : 1 ≤ 10 ^ l.length := Nat.one_le_pow _ _ (by decide)
 have := Nat.mul_le_mul_left a this
 omega
theorem val_lt (l : List UInt8) (h : allDig l = true) : val l < 10 ^ l.length := by
 induction l with
 | nil => simp [val, valFrom]
 | cons c l ih =>
  rw [allDig_cons] at h
  simp at h
  have h1 := ih h.2
  have h2 := (isDig_iff c).1 h.1
  have e : val (c :: l) = dv c * 10 ^ l.length + val l := by
   unfold val
   rw [valFrom_cons, valFrom_mul, Nat.zero_mul, Nat.zero_add]; rfl
  rw [e, List.length_cons, Nat.pow_succ]
  have h3 : dv c ≤ 9 := by rw [dv_eq]; omega
  have := Nat.mul_le_mul_right (10 ^ l.length) h3
  omega

def strip : List UInt8 → List UInt8
 | [] => []
 | c :: l => if strip l = [] ∧ c = 48 then [] else c :: strip l

theorem strip_snoc (l : List UInt8) (c : UInt8) : strip (l ++ [c]) = if c = 48 then strip l else l ++ [c] := by
 induction l with
 | nil => by_cases h : c = 48 <;> simp [strip, h]
 | cons d l ih =>
  by_cases h : c = 48
  ·rw [if_pos h] at ih
   rw [if_pos h, List.cons_append, strip, strip, ih]
  ·rw [if_neg h] at ih
   rw [if_neg h, List.cons_append, strip, ih]; simp

theorem strip_trim (l : List UInt8) : trimRightS l [48] = strip l := by
 have h : ∀ m : List UInt8, (m.dropWhile ([48].contains ·)).reverse = strip m.reverse := by
  intro m
  induction m with
  | nil => rfl
  | cons c m ih =>
   rw [List.reverse_cons, strip_snoc, List.dropWhile_cons]
   by_cases hc : c = 48
   ·subst hc
    simpa using ih
   ·simp [hc]
 unfold trimRightS
 rw [h, List.reverse_reverse]

theorem strip_le (l : List UInt8) : (strip l).length ≤ l.length := by
 induction l with
 | nil => simp [strip]
 | cons c l ih => unfold strip; split <;> simp; omega

theorem strip_dig (l : List UInt8) (h : allDig l = true) : allDig (strip l) = true := by
 induction l with
 | nil => rfl
 | cons c l ih =>
  rw [allDig_cons] at h
  simp at h
  unfold strip
  split
  ·rfl
  ·rw [allDig_cons, h.1, ih h.2]; rfl

def digs : List UInt8 := [48, 49, 50, 51, 52, 53, 54, 55, 56, 57]
theorem digs_has (c : UInt8) : digs.contains c = isDig c := by
 have : ∀ n : Fin 256, digs.contains (UInt8.ofNat n.1) = isDig (UInt8.ofNat n.1) := by decide +kernel
 have h := this ⟨c.toNat, c.toNat_lt⟩
 simpa using h

theorem dropWhile_nil (p : UInt8 → Bool) (l : List UInt8) : l.dropWhile p = [] ↔ l.all p = true := by
 induction l with
 | nil => simp
 | cons c l ih => rw [List.dropWhile_cons]; cases h : p c <;> simp [h, ih]

theorem trim_digs (l : List UInt8) : trimS l digs = [] ↔ allDig l = true := by
 have e : (fun c => digs.contains c) = isDig := funext digs_has
 unfold trimS trimLeftS trimRightS allDig
 rw [e]
 constructor
 ·intro h
  have h1 := (dropWhile_nil _ _).1 h
  rw [List.all_reverse] at h1
  have : ∀ m : List UInt8, (m.dropWhile isDig).all isDig = true → m.all isDig = true := by
   intro m
   induction m with
   | nil => simp
   | cons c m ih => rw [List.dropWhile_cons]; cases hc : isDig c <;> simp [hc]; simpa using ih
  have h2 := this _ h1
  rwa [List.all_reverse] at h2
 ·intro h
  have h1 : l.reverse.dropWhile isDig = [] := (dropWhile_nil _ _).2 (by rw [List.all_reverse]; exact h)
  rw [h1]; rfl


theorem val_cons (c : UInt8) (l : List UInt8) : val (c :: l) = dv c * 10 ^ l.length + val l := by
 unfold val
 rw [valFrom_cons, valFrom_mul, Nat.zero_mul, Nat.zero_add]; rfl
theorem val_nil : val [] = 0 := rfl
theorem val_append (l m : List UInt8) : val (l ++ m) = val l * 10 ^ m.length + val m := by
 unfold val; rw [valFrom_append, valFrom_mul]; rfl
theorem dv_zero : dv 48 = 0 := by rw [dv_eq]; rfl
theorem dv_le (c : UInt8) (h : isDig c = true) : dv c ≤ 9 := by
 have := (isDig_iff c).1 h
 rw [dv_eq]; omega
theorem dv_inj (c : UInt8) (h : isDig c = true) : dv c = 0 ↔ c = 48 := by
 have := (isDig_iff c).1 h
 rw [dv_eq]
 constructor
 ·intro e
  have : c.toNat = 48 := by omega
  exact UInt8.toNat_inj.1 this
 ·rintro rfl; rfl
theorem val_zeros (k : Nat) : val (List.replicate k 48) = 0 := by
 induction k with
 | zero => rfl
 | succ k ih => rw [List.replicate_succ, val_cons, ih, dv_zero]; simp

def fr (mx : Bool) (i : Nat) (out unit : Nat) : List UInt8 → Option Nat
 | [] => some out
 | c :: p => if dv c ≠ 0 ∧ (mx = true ∨ 6 ≤ i) then none else fr mx (i + 1) (out + dv c * unit) (unit / 10) p

theorem strip_zero (p : List UInt8) (h : strip p = []) : strip (48 :: p) = [] := by rw [strip, if_pos ⟨h, rfl⟩]
theorem strip_keep (c : UInt8) (p : List UInt8) (h : strip p ≠ [] ∨ c ≠ 48) : strip (c :: p) = c :: strip p := by
 rw [strip, if_neg]; rintro ⟨h1, h2⟩; rcases h with h | h
 ·exact h h1
 ·exact h h2

theorem pow_less (i : Nat) (hi : i < 6) : 10 ^ (6 - i) / 10 = 10 ^ (6 - (i + 1)) := by
 rw [show 6 - i = (6 - (i + 1)) + 1 by omega, Nat.pow_succ, Nat.mul_div_cancel _ (by decide)]

theorem fr_eq (mx : Bool) (p : List UInt8) : ∀ (i out : Nat), allDig p = true →
  fr mx i out (10 ^ (6 - i) / 10) p = if (mx = true ∧ strip p ≠ []) ∨ 6 - i < (strip p).length then none else some (out + val (strip p) * 10 ^ (6 - i - (strip p).length)) := by
 induction p with
 | nil => intro i out _; simp [fr, strip, val_nil]
 | cons c p ih =>
  intro i out hd
  rw [allDig_cons] at hd
  simp at hd
  obtain ⟨hc, hp⟩ := hd
  have hz := dv_inj c hc
  rw [fr]
  by_cases h0 : dv c = 0
  ·have hc0 := hz.1 h0
   subst hc0
   rw [if_neg (fun h => h.1 h0), h0, Nat.zero_mul, Nat.add_zero out]
   have hu : 10 ^ (6 - i) / 10 / 10 = 10 ^ (6 - (i + 1)) / 10 := by
    by_cases hi : i < 6
    ·rw [pow_less i hi]
    ·rw [show 6 - i = 0 by omega, show 6 - (i + 1) = 0 by omega]
   rw [hu, ih (i + 1) out hp]
   by_cases hs : strip p = []
   ·rw [strip_zero p hs, hs]; simp [val_nil]
   ·rw [strip_keep 48 p (Or.inl hs)]
    have hl : 1 ≤ (strip p).length := by
     cases h : strip p with
     | nil => exact absurd h hs
     | cons a b => simp
    by_cases hm : mx = true
    ·simp [hm, hs]
    ·by_cases hq : 6 - (i + 1) < (strip p).length
     ·rw [if_pos (Or.inr hq), if_pos (Or.inr (by rw [List.length_cons]; omega))]
     ·rw [if_neg (fun h => h.elim (fun g => hm g.1) hq), if_neg (fun h => h.elim (fun g => hm g.1) (fun g => by rw [List.length_cons] at g; omega)), val_cons, h0, List.length_cons, Nat.zero_mul, Nat.zero_add]
      rw [show 6 - i - ((strip p).length + 1) = 6 - (i + 1) - (strip p).length by omega]
  ·have hc0 : ¬ c = 48 := fun h => h0 (hz.2 h)
   rw [strip_keep c p (Or.inr hc0)]
   by_cases hm : mx = true
   ·rw [if_pos ⟨h0, Or.inl hm⟩, if_pos (Or.inl ⟨hm, by simp⟩)]
   ·by_cases hi : 6 ≤ i
    ·rw [if_pos ⟨h0, Or.inr hi⟩, if_pos (Or.inr (by rw [List.length_cons]; omega))]
    ·rw [if_neg (fun h => h.2.elim hm hi)]
     rw [pow_less i (by omega), ih (i + 1) _ hp]
     by_cases hq : 6 - (i + 1) < (strip p).length
     ·rw [if_pos (Or.inr hq), if_pos (Or.inr (by rw [List.length_cons]; omega))]
     ·rw [if_neg (fun h => h.elim (fun g => hm g.1) hq), if_neg (fun h => h.elim (fun g => hm g.1) (fun g => by rw [List.length_cons] at g; omega)), val_cons, List.length_cons]
      rw [show 6 - i - ((strip p).length + 1) = 6 - (i + 1) - (strip p).length by omega]
      rw [Nat.add_mul, Nat.mul_assoc, ← Nat.pow_add, show (strip p).length + (6 - (i + 1) - (strip p).length) = 6 - (i + 1) by omega, Nat.add_assoc]

def satFrom (n : Nat) : List UInt8 → Nat
 | [] => n
 | c :: l => satFrom (if n ≤ 1000000000000 then n * 10 + dv c else n) l

theorem satFrom_snoc (l : List UInt8) (c : UInt8) : ∀ n, satFrom n (l ++ [c]) = if satFrom n l ≤ 1000000000000 then satFrom n l * 10 + dv c else satFrom n l := by
 induction l with
 | nil => intro n; rfl
 | cons d l ih => intro n; rw [List.cons_append, satFrom, satFrom, ih]

theorem satFrom_big (l : List UInt8) : ∀ n, ¬ n ≤ 1000000000000 → satFrom n l = n := by
 induction l with
 | nil => intro n _; rfl
 | cons c l ih => intro n h; rw [satFrom, if_neg h, ih n h]

theorem satFrom_eq (l : List UInt8) : ∀ n, (valFrom n l ≤ 1000000000000 → satFrom n l = valFrom n l) ∧ (¬ valFrom n l ≤ 1000000000000 → ¬ satFrom n l ≤ 1000000000000) := by
 induction l with
 | nil => intro n; exact ⟨fun _ => rfl, fun h => h⟩
 | cons c l ih =>
  intro n
  rw [satFrom, valFrom_cons]
  by_cases h : n ≤ 1000000000000
  ·rw [if_pos h]; exact ih _
  ·rw [if_neg h, satFrom_big l n h]
   refine ⟨fun g => ?_, fun _ => h⟩
   have := valFrom_ge (n * 10 + dv c) l
   omega

def fin (neg : Bool) (h p : List UInt8) : Int × Int :=
 if val h ≤ 1000000000000 ∧ ¬ (val h = 1000000000000 ∧ strip p ≠ []) ∧ (strip p).length ≤ 6 then
  let v : Int := ((val h * 1000000 + val (strip p) * 10 ^ (6 - (strip p).length) : Nat) : Int)
  (if neg then -v else v, 0)
 else (0, 2)

def unsigned (l : List UInt8) : List UInt8 := if l.head? = some 45 then l.tail else l
def negB (l : List UInt8) : Bool := l.head? == some 45

def parseT (neg : Bool) (t : List UInt8) : Int × Int :=
 match t.drop (cnt t) with
 | [] => if cnt t = 0 then (0, 1) else fin neg t []
 | c :: p => if c = 46 ∧ p ≠ [] ∧ allDig p = true then fin neg (t.take (cnt t)) p else (0, 1)

def parseS (l : List UInt8) : Int × Int := parseT (negB l) (unsigned l)


theorem unsigned_le (l : List UInt8) : (unsigned l).length ≤ l.length := by unfold unsigned; split <;> simp

theorem fin_big (neg : Bool) (h p : List UInt8) (hb : ¬ satFrom 0 h ≤ 1000000000000) : fin neg h p = (0, 2) := by
 unfold fin
 have h1 := (satFrom_eq h 0).1
 rw [if_neg]
 rintro ⟨h2, _⟩
 exact hb (by rw [h1 h2]; exact h2)

theorem sat_val (h : List UInt8) (hb : satFrom 0 h ≤ 1000000000000) : val h = satFrom 0 h := by
 have h1 := satFrom_eq h 0
 by_cases g : valFrom 0 h ≤ 1000000000000
 ·exact (h1.1 g).symm
 ·exact absurd hb (h1.2 g)

theorem fin_none (neg : Bool) (h p : List UInt8) (hp : allDig p = true) (hb : satFrom 0 h ≤ 1000000000000) (hf : fr (decide (satFrom 0 h = 1000000000000)) 0 (satFrom 0 h * 1000000) 100000 p = none) : fin neg h p = (0, 2) := by
 have e := fr_eq (decide (satFrom 0 h = 1000000000000)) p 0 (satFrom 0 h * 1000000) hp
 have hv := sat_val h hb
 rw [show 10 ^ (6 - 0) / 10 = 100000 from rfl, hf] at e
 unfold fin
 rw [if_neg]
 rintro ⟨_, h2, h3⟩
 rw [if_neg] at e
 ·cases e
 ·rintro (⟨g1, g2⟩ | g)
  ·exact h2 ⟨by rw [hv]; simpa using g1, g2⟩
  ·omega

theorem fin_some (neg : Bool) (h p : List UInt8) (out : Nat) (hp : allDig p = true) (hb : satFrom 0 h ≤ 1000000000000) (hf : fr (decide (satFrom 0 h = 1000000000000)) 0 (satFrom 0 h * 1000000) 100000 p = some out) : fin neg h p = (if neg then -(out : Int) else out, 0) := by
 have e := fr_eq (decide (satFrom 0 h = 1000000000000)) p 0 (satFrom 0 h * 1000000) hp
 have hv := sat_val h hb
 rw [show 10 ^ (6 - 0) / 10 = 100000 from rfl, hf] at e
 unfold fin
 by_cases hc : ((decide (satFrom 0 h = 1000000000000)) = true ∧ strip p ≠ []) ∨ 6 - 0 < (strip p).length
 ·rw [if_pos hc] at e; cases e
 ·rw [if_neg hc] at e
  rw [if_pos]
  ·have : out = val h * 1000000 + val (strip p) * 10 ^ (6 - (strip p).length) := by rw [hv]; exact Option.some.inj e
   rw [← this]
  ·refine ⟨by omega, fun g => hc (Or.inl ⟨by rw [← hv]; exact decide_eq_true g.1, g.2⟩), ?_⟩
   by_cases g : (strip p).length ≤ 6
   ·exact g
   ·exact absurd (Or.inr (by omega)) hc

theorem take_snoc' (t : List UInt8) (i : Nat) (c : UInt8) (r : List UInt8) (h : t.drop i = c :: r) : t.take (i + 1) = t.take i ++ [c] := by
 have hi : i < t.length := by
  apply Nat.lt_of_not_le; intro g
  rw [List.drop_eq_nil_of_le g] at h; cases h
 rw [List.drop_eq_getElem_cons hi] at h
 rw [List.take_succ_eq_append_getElem hi, (List.cons.inj h).1]

theorem dig_at (t : List UInt8) (i : Nat) (c : UInt8) (r : List UInt8) (h : t.drop i = c :: r) (hi : i < cnt t) : isDig c = true := by
 induction t generalizing i with
 | nil => simp at h
 | cons d t ih =>
  unfold cnt at hi
  cases hd : isDig d
  ·simp [hd] at hi
  ·simp [hd] at hi
   cases i with
   | zero => simp at h; rw [← h.1]; exact hd
   | succ i => exact ih i (by simpa using h) (by omega)

theorem dig_all (t : List UInt8) (i : Nat) (c : UInt8) (r : List UInt8) (h : t.drop i = c :: r) (hd : allDig t = true) : isDig c = true := by
 refine dig_at t i c r h ?_
 rw [(cnt_all t).2 hd]
 apply Nat.lt_of_not_le; intro g
 rw [List.drop_eq_nil_of_le g] at h; cases h

theorem byteq (c d : UInt8) (n : Int) (h : (d.toNat : Int) = n) : ((c.toNat : Int) == n) = (c == d) := by
 subst h
 rw [Bool.eq_iff_iff]
 simp only [beq_iff_eq]
 constructor
 ·intro h; exact UInt8.toNat_inj.1 (by omega)
 ·rintro rfl; rfl

theorem negB_cons (c : UInt8) (r : List UInt8) : negB (c :: r) = ((c.toNat : Int) == 45) := by
 rw [byteq c 45 45 rfl]
 rfl

theorem unsigned_at (l : List UInt8) : (negB l = true → 1 ≤ l.length ∧ l.drop 1 = unsigned l) ∧ (negB l = false → l.drop 0 = unsigned l) := by
 cases l with
 | nil => exact ⟨fun h => (by cases h), fun _ => rfl⟩
 | cons c r =>
  unfold negB unsigned
  constructor
  ·intro h
   have : c = 45 := by simpa using h
   subst this; simp
  ·intro h
   have : c ≠ 45 := by simpa using h
   simp [this]

def pointB (t : List UInt8) : Bool := match t.drop (cnt t) with | [] => false | c :: _ => c == 46

theorem parseT_nil (neg : Bool) (t : List UInt8) (h : t.drop (cnt t) = []) : parseT neg t = if cnt t = 0 then (0, 1) else fin neg (t.take (cnt t)) [] := by
 have h1 : t.take (cnt t) = t := List.take_of_length_le (by have := congrArg List.length h; simp at this; omega)
 unfold parseT; rw [h, h1]
theorem parseT_cons (neg : Bool) (t : List UInt8) (c : UInt8) (p : List UInt8) (h : t.drop (cnt t) = c :: p) : parseT neg t = if c = 46 ∧ p ≠ [] ∧ allDig p = true then fin neg (t.take (cnt t)) p else (0, 1) := by
 unfold parseT; rw [h]

theorem drop_len {t : List UInt8} {d : Nat} {c : UInt8} {p : List UInt8} (h : t.drop d = c :: p) : t.length ≤ d + 1 + p.length ∧ d + 1 + p.length ≤ t.length := by
 have := congrArg List.length h
 simp at this
 omega
theorem drop_nil_len {t : List UInt8} {d : Nat} (h : t.drop d = []) : t.length ≤ d := by
 have := congrArg List.length h
 simp at this
 omega

theorem byte_at (l : List UInt8) (i : Nat) (h : i < l.length) : ∃ c rest, l.drop i = c :: rest ∧ l.drop (i + 1) = rest ∧ ∀ h', (⟨l.toArray⟩ : ByteArray)[i]'h' = c :=
 ⟨l[i], l.drop (i + 1), List.drop_eq_getElem_cons h, rfl, fun _ => rfl⟩

end Go.Proofs.YtkhlfggnjcbniaaGreatDoor.num
namespace Go.Proofs.YtkhlfggnjcbniaaGreatDoor.cal

def leapP (y : Int) : Prop := y % 400 = 0 ∨ (y % 4 = 0 ∧ y % 100 ≠ 0)
instance (y : Int) : Decidable (leapP y) := by unfold leapP; infer_instance
def newY (y : Int) : Int := (y - 1) * 365 + (y - 1) / 4 - (y - 1) / 100 + (y - 1) / 400 - 719162
def mlen (y m : Int) : Int := if m = 2 then (if leapP y then 29 else 28) else if m = 4 ∨ m = 6 ∨ m = 9 ∨ m = 11 then 30 else 31
def cum (y m : Int) : Int :=
 if m ≤ 1 then 0 else if m = 2 then 31 else
  (if m = 3 then 59 else if m = 4 then 90 else if m = 5 then 120 else if m = 6 then 151 else if m = 7 then 181 else if m = 8 then 212 else if m = 9 then 243 else if m = 10 then 273 else if m = 11 then 304 else 334) + (if leapP y then 1 else 0)
def numD (y m d : Int) : Int := newY y + cum y m + (d - 1)

def civ (y m d : Int) : Int :=
 let y' := if m < 3 then y - 1 else y
 let m' := if m < 3 then m + 12 else m
 (y' / 400) * 146097 + ((y' % 400) * 365 + (y' % 400) / 4 - (y' % 400) / 100 + ((153 * (m' - 3) + 2) / 5 + d - 1)) - 719468

theorem civ_num (y m d : Int) (h1 : 1 ≤ m) (h2 : m ≤ 12) : civ y m d = numD y m d := by
 have hm : m = 1 ∨ m = 2 ∨ m = 3 ∨ m = 4 ∨ m = 5 ∨ m = 6 ∨ m = 7 ∨ m = 8 ∨ m = 9 ∨ m = 10 ∨ m = 11 ∨ m = 12 := by omega
 have hl : leapP y ∨ ¬ leapP y := Decidable.em _
 rcases hl with hl | hl
 ·rcases hm with rfl | rfl | rfl | rfl | rfl | rfl | rfl | rfl | rfl | rfl | rfl | rfl <;>
   simp only [civ, numD, newY, cum, hl] <;> unfold leapP at hl <;> simp <;> omega
 ·rcases hm with rfl | rfl | rfl | rfl | rfl | rfl | rfl | rfl | rfl | rfl | rfl | rfl <;>
   simp only [civ, numD, newY, cum, hl] <;> unfold leapP at hl <;> simp <;> omega

theorem newY_next (y : Int) : newY (y + 1) = newY y + (if leapP y then 366 else 365) := by
 by_cases h : leapP y
 ·rw [if_pos h]; unfold leapP at h; unfold newY; omega
 ·rw [if_neg h]; unfold leapP at h; unfold newY; omega
theorem newY_mono (a b : Int) (h : a < b) : newY a < newY b := by
 unfold newY; omega

theorem cum_next (y m : Int) (h1 : 1 ≤ m) (h2 : m ≤ 11) : cum y (m + 1) = cum y m + mlen y m := by
 have hm : m = 1 ∨ m = 2 ∨ m = 3 ∨ m = 4 ∨ m = 5 ∨ m = 6 ∨ m = 7 ∨ m = 8 ∨ m = 9 ∨ m = 10 ∨ m = 11 := by omega
 rcases hm with rfl | rfl | rfl | rfl | rfl | rfl | rfl | rfl | rfl | rfl | rfl <;> simp [cum, mlen] <;> split <;> omega
theorem mlen_pos (y m : Int) : 28 ≤ mlen y m ∧ mlen y m ≤ 31 := by unfold mlen; split <;> (try split) <;> omega

def okD (y m d : Int) : Prop := 1 ≤ m ∧ m ≤ 12 ∧ 1 ≤ d ∧ d ≤ mlen y m
theorem cum_bound (y m d : Int) (h : okD y m d) : 0 ≤ cum y m + (d - 1) ∧ cum y m + (d - 1) < (if leapP y then 366 else 365) := by
 obtain ⟨h1, h2, h3, h4⟩ := h
 have hm : m = 1 ∨ m = 2 ∨ m = 3 ∨ m = 4 ∨ m = 5 ∨ m = 6 ∨ m = 7 ∨ m = 8 ∨ m = 9 ∨ m = 10 ∨ m = 11 ∨ m = 12 := by omega
 rcases hm with rfl | rfl | rfl | rfl | rfl | rfl | rfl | rfl | rfl | rfl | rfl | rfl <;> simp [cum, mlen] at * <;> split <;> (try split at h4) <;> omega

theorem num_year (y m d : Int) (h : okD y m d) : newY y ≤ numD y m d ∧ numD y m d < newY (y + 1) := by
 have hb := cum_bound y m d h
 rw [newY_next]
 unfold numD
 omega
def wd (n : Int) : Int := (n + 3) % 7 + 1
def firstW (y : Int) : Int := newY y + 3 - wd (newY y + 3) + 1
theorem firstW_near (y : Int) : newY y - 3 ≤ firstW y ∧ firstW y ≤ newY y + 3 := by unfold firstW wd; omega
theorem firstW_mon (y : Int) : firstW y % 7 = 4 := by unfold firstW wd; omega
theorem firstW_lt (y : Int) : firstW y < firstW (y + 1) := by
 have a := firstW_near y
 have b := firstW_near (y + 1)
 have c := newY_next y
 split at c <;> omega
def weeksW (y : Int) : Int := (firstW (y + 1) - firstW y) / 7
theorem weeksW_mul (y : Int) : firstW (y + 1) = firstW y + 7 * weeksW y := by
 have a := firstW_mon y
 have b := firstW_mon (y + 1)
 unfold weeksW; omega
theorem weeksW_pos (y : Int) : 0 < weeksW y ∧ weeksW y ≤ 54 := by
 have a := firstW_near y
 have b := firstW_near (y + 1)
 have c := newY_next y
 have d := weeksW_mul y
 split at c <;> omega

end Go.Proofs.YtkhlfggnjcbniaaGreatDoor.cal
namespace Go.Proofs.YtkhlfggnjcbniaaGreatDoor.mom
open Go.Lib num cal

def two : List UInt8 → Option (Nat × List UInt8)
 | a :: b :: r => if isDig a && isDig b then some (dv a * 10 + dv b, r) else none
 | _ => none
def sgn (c : UInt8) : List UInt8 → Option (List UInt8)
 | d :: r => if d = c then some r else none
 | [] => none
def yOk (n y : Nat) : Bool := decide (4 ≤ n) && (decide (1 ≤ y) && decide (y ≤ 275760))
def yearP (l : List UInt8) : Option (Nat × List UInt8) :=
 if yOk (cnt l) (val (l.take (cnt l))) then some (val (l.take (cnt l)), l.drop (cnt l)) else none
def dOk (y m d : Nat) : Bool := decide (1 ≤ m) && decide (m ≤ 12) && decide (1 ≤ d) && decide ((d : Int) ≤ mlen y m)
def wOk (y w : Nat) : Bool := decide (1 ≤ w) && decide ((w : Int) ≤ weeksW y)

def dateP (l : List UInt8) : Option (Int × List UInt8) :=
 match yearP l with
 | none => none
 | some (y, r) => match sgn 45 r with
  | none => none
  | some r => match two r with
   | none => none
   | some (m, r) => match sgn 45 r with
    | none => none
    | some r => match two r with
     | none => none
     | some (d, r) => if dOk y m d then some (numD y m d * 86400000, r) else none
def monthP (l : List UInt8) : Option (Int × List UInt8) :=
 match yearP l with
 | none => none
 | some (y, r) => match sgn 45 r with
  | none => none
  | some r => match two r with
   | none => none
   | some (m, r) => if decide (1 ≤ m) && decide (m ≤ 12) then some (12 * ((y : Int) - 1970) + m - 1, r) else none
def weekP (l : List UInt8) : Option (Int × List UInt8) :=
 match yearP l with
 | none => none
 | some (y, r) => match sgn 45 r with
  | none => none
  | some r => match sgn 87 r with
   | none => none
   | some r => match two r with
    | none => none
    | some (w, r) => if wOk y w then some ((firstW y + 7 * ((w : Int) - 1)) * 86400000, r) else none
def thou (l : List UInt8) : Option (Nat × List UInt8) :=
 let n := min (cnt l) 3
 if n = 0 then none else some (val (l.take n) * 10 ^ (3 - n), l.drop n)
def secT (n : Nat) (r : List UInt8) : Option (Int × List UInt8) :=
 if r.head? = some 46 then (match thou r.tail with
  | none => none
  | some (p, r2) => some (((n + p : Nat) : Int), r2)) else some ((n : Int), r)
def secP (n : Nat) (l : List UInt8) : Option (Int × List UInt8) :=
 match two l with
 | none => none
 | some (s, r) => if s < 60 then secT (n + 1000 * s) r else none
def minT (n : Nat) (r : List UInt8) : Option (Int × List UInt8) :=
 if r.head? = some 58 then secP n r.tail else some ((n : Int), r)
def timeP (l : List UInt8) : Option (Int × List UInt8) :=
 match two l with
 | none => none
 | some (h, r) => match sgn 58 r with
  | none => none
  | some r => match two r with
   | none => none
   | some (m, r) => if decide (h < 24) && decide (m < 60) then minT ((h * 60 + m) * 60000) r else none
def midP (l : List UInt8) : Option (List UInt8) := match l with
 | c :: r => if c = 32 ∨ c = 84 then some r else none
 | [] => none
def localP (l : List UInt8) : Option (Int × List UInt8) :=
 match dateP l with
 | none => none
 | some (d, r) => match midP r with
  | none => none
  | some r => match timeP r with
   | none => none
   | some (t, r) => some (d + t, r)
def partP (kind : Int) (l : List UInt8) : Option (Int × List UInt8) :=
 if kind = 1 then dateP l else if kind = 2 then monthP l else if kind = 3 then weekP l else if kind = 4 then timeP l else if kind = 5 then localP l else none
def whole (o : Option (Int × List UInt8)) : Option Int := match o with
 | some (v, []) => some v
 | _ => none
def parseM (kind : Int) (l : List UInt8) : Int × Int :=
 if kind < 1 ∨ 5 < kind then (0, 3) else match whole (partP kind l) with
 | some v => (v, 0)
 | none => (0, 1)

theorem cnt_stop (ds r : List UInt8) (hd : allDig ds = true) (hr : cnt r = 0) : cnt (ds ++ r) = ds.length := by rw [cnt_append ds r hd, hr]; omega
theorem cnt_cons_no (c : UInt8) (r : List UInt8) (h : isDig c = false) : cnt (c :: r) = 0 := by rw [cnt, h]; rfl
theorem yearP_of (ds r : List UInt8) (hd : allDig ds = true) (hr : cnt r = 0) (h : yOk ds.length (val ds) = true) : yearP (ds ++ r) = some (val ds, r) := by
 unfold yearP
 rw [cnt_stop ds r hd hr, List.take_left, List.drop_left, if_pos h]
theorem yearP_form (l : List UInt8) (y : Nat) (r : List UInt8) (h : yearP l = some (y, r)) : ∃ ds, l = ds ++ r ∧ allDig ds = true ∧ yOk ds.length y = true ∧ y = val ds ∧ ds.length = cnt l := by
 unfold yearP at h
 split at h
 ·rename_i g
  cases h
  have hl := cnt_le l
  refine ⟨l.take (cnt l), by rw [List.take_append_drop], cnt_take l, ?_, rfl, by rw [List.length_take]; omega⟩
  rw [List.length_take, Nat.min_eq_left hl]
  exact g
 ·cases h
theorem sgn_form (c : UInt8) (l r : List UInt8) (h : sgn c l = some r) : l = c :: r := by
 cases l with
 | nil => cases h
 | cons d t =>
  have e : sgn c (d :: t) = if d = c then some t else none := rfl
  rw [e] at h
  by_cases g : d = c
  ·rw [if_pos g] at h; cases h; rw [g]
  ·rw [if_neg g] at h; cases h
theorem sgn_of (c : UInt8) (r : List UInt8) : sgn c (c :: r) = some r := by rw [sgn, if_pos rfl]
theorem two_form (l : List UInt8) (n : Nat) (r : List UInt8) (h : two l = some (n, r)) : ∃ a b, l = a :: b :: r ∧ isDig a = true ∧ isDig b = true ∧ n = dv a * 10 + dv b := by
 match l, h with
 | [], h => cases h
 | [a], h => cases h
 | a :: b :: t, h =>
  have e : two (a :: b :: t) = if (isDig a && isDig b) = true then some (dv a * 10 + dv b, t) else none := rfl
  rw [e] at h
  by_cases g : (isDig a && isDig b) = true
  ·rw [if_pos g] at h
   rw [Bool.and_eq_true] at g
   cases h
   exact ⟨a, b, rfl, g.1, g.2, rfl⟩
  ·rw [if_neg g] at h; cases h
theorem two_of (a b : UInt8) (r : List UInt8) (ha : isDig a = true) (hb : isDig b = true) : two (a :: b :: r) = some (dv a * 10 + dv b, r) := by rw [two, ha, hb]; rfl
theorem two_lt (l : List UInt8) (n : Nat) (r : List UInt8) (h : two l = some (n, r)) : n < 100 := by
 obtain ⟨a, b, _, ha, hb, rfl⟩ := two_form l n r h
 have := dv_le a ha
 have := dv_le b hb
 omega

theorem yearP_app (l : List UInt8) (y : Nat) (c : UInt8) (r q : List UInt8) (h : yearP l = some (y, c :: r)) : yearP (l ++ q) = some (y, c :: (r ++ q)) := by
 obtain ⟨ds, h1, h2, h3, h4, h5⟩ := yearP_form l y (c :: r) h
 have hc : isDig c = false := cnt_next l c r (by rw [← h5, h1, List.drop_left])
 rw [h1, List.append_assoc, h4]
 rw [h4] at h3
 rw [yearP_of ds (c :: r ++ q) h2 (cnt_cons_no c _ hc) h3]
 rfl
theorem two_app (l : List UInt8) (n : Nat) (r q : List UInt8) (h : two l = some (n, r)) : two (l ++ q) = some (n, r ++ q) := by
 obtain ⟨a, b, rfl, ha, hb, rfl⟩ := two_form l n r h
 show two (a :: b :: (r ++ q)) = _
 rw [two_of a b _ ha hb]
theorem dateP_form (l : List UInt8) (v : Int) (r : List UInt8) (h : dateP l = some (v, r)) :
  ∃ y m d r1 r2 r3 r4, yearP l = some (y, r1) ∧ r1 = 45 :: r2 ∧ two r2 = some (m, r3) ∧ r3 = 45 :: r4 ∧ two r4 = some (d, r) ∧ dOk y m d = true ∧ v = numD y m d * 86400000 := by
 unfold dateP at h
 split at h
 ·cases h
 ·rename_i y r1 e1
  split at h
  ·cases h
  ·rename_i r2 e2
   split at h
   ·cases h
   ·rename_i m r3 e3
    split at h
    ·cases h
    ·rename_i r4 e4
     split at h
     ·cases h
     ·rename_i d r5 e5
      split at h
      ·rename_i g
       cases h
       exact ⟨y, m, d, r1, r2, r3, r4, e1, sgn_form _ _ _ e2, e3, sgn_form _ _ _ e4, e5, g, rfl⟩
      ·cases h
theorem dateP_of (l : List UInt8) (y m d : Nat) (r1 r2 r3 r4 r : List UInt8) (h1 : yearP l = some (y, r1)) (h2 : r1 = 45 :: r2) (h3 : two r2 = some (m, r3)) (h4 : r3 = 45 :: r4) (h5 : two r4 = some (d, r)) (h6 : dOk y m d = true) :
  dateP l = some (numD y m d * 86400000, r) := by
 unfold dateP
 rw [h1]
 simp only [h2, sgn_of, h3, h4, h5, h6, if_true]
theorem dateP_app (l : List UInt8) (v : Int) (r q : List UInt8) (h : dateP l = some (v, r)) : dateP (l ++ q) = some (v, r ++ q) := by
 obtain ⟨y, m, d, r1, r2, r3, r4, h1, h2, h3, h4, h5, h6, rfl⟩ := dateP_form l v r h
 subst h2
 subst h4
 exact dateP_of (l ++ q) y m d (45 :: (r2 ++ q)) (r2 ++ q) (45 :: (r4 ++ q)) (r4 ++ q) (r ++ q) (yearP_app l y 45 r2 q h1) rfl (two_app r2 m (45 :: r4) q h3) rfl (two_app r4 d r q h5) h6

def isMid (c : UInt8) : Bool := (c == 84) || (c == 32)
theorem dig_mid (c : UInt8) (h : isDig c = true) : isMid c = false := by
 have : ∀ n : Fin 256, isDig (UInt8.ofNat n.1) = true → isMid (UInt8.ofNat n.1) = false := by decide +kernel
 have g := this ⟨c.toNat, c.toNat_lt⟩
 simp only [UInt8.ofNat_toNat] at g
 exact g h
theorem date_mid (l : List UInt8) (v : Int) (r : List UInt8) (h : dateP l = some (v, r)) : ∃ p, l = p ++ r ∧ p.all (fun c => !isMid c) = true ∧ dateP p = some (v, []) := by
 obtain ⟨y, m, d, r1, r2, r3, r4, h1, h2, h3, h4, h5, h6, rfl⟩ := dateP_form l v r h
 obtain ⟨ds, k1, k2, k3, k4, _⟩ := yearP_form l y r1 h1
 obtain ⟨a, b, rfl, ha, hb, rfl⟩ := two_form r2 m r3 h3
 obtain ⟨a', b', rfl, ha', hb', rfl⟩ := two_form r4 d r h5
 subst h4
 subst h2
 refine ⟨ds ++ [45, a, b, 45, a', b'], by rw [k1]; simp, ?_, ?_⟩
 ·rw [List.all_append, Bool.and_eq_true]
  constructor
  ·rw [List.all_eq_true]
   intro c hc
   unfold allDig at k2
   rw [List.all_eq_true] at k2
   rw [dig_mid c (k2 c hc)]; rfl
  ·simp only [List.all_cons, List.all_nil, dig_mid a ha, dig_mid b hb, dig_mid a' ha', dig_mid b' hb']
   decide
 ·subst k4
  exact dateP_of _ (val ds) _ _ (45 :: [a, b, 45, a', b']) [a, b, 45, a', b'] (45 :: [a', b']) [a', b'] [] (yearP_of ds _ k2 (cnt_cons_no 45 _ (by decide)) k3) rfl (two_of a b _ ha hb) rfl (two_of a' b' _ ha' hb') h6

def digR (l : List UInt8) (k : Nat) : Bool := match l[k]? with | some c => isDig c | none => false
def dvR (l : List UInt8) (k : Nat) : Nat := match l[k]? with | some c => dv c | none => 0
def twoR (l : List UInt8) (k : Nat) : Int := if digR l k && digR l (k + 1) then ((dvR l k * 10 + dvR l (k + 1) : Nat) : Int) else -1
def yearR (l : List UInt8) : Nat × Nat := if yOk (cnt l) (val (l.take (cnt l))) then (val (l.take (cnt l)), cnt l) else (0, 0)
def signR (l : List UInt8) (k : Nat) (c : UInt8) : Bool := l[k]? == some c
def dOkI (y m d : Int) : Prop := 1 ≤ y ∧ y ≤ 275760 ∧ 1 ≤ m ∧ m ≤ 12 ∧ 1 ≤ d ∧ d ≤ mlen y m
instance (y m d : Int) : Decidable (dOkI y m d) := by unfold dOkI; infer_instance
def wOkI (y w : Int) : Prop := 1 ≤ y ∧ y ≤ 275760 ∧ 1 ≤ w ∧ w ≤ weeksW y
instance (y w : Int) : Decidable (wOkI y w) := by unfold wOkI; infer_instance
def dayR (l : List UInt8) : Option Int :=
 if (yearR l).2 ≠ 0 ∧ l.length = (yearR l).2 + 6 ∧ signR l (yearR l).2 45 = true ∧ signR l ((yearR l).2 + 3) 45 = true then
  (if dOkI (yearR l).1 (twoR l ((yearR l).2 + 1)) (twoR l ((yearR l).2 + 4)) then some (numD (yearR l).1 (twoR l ((yearR l).2 + 1)) (twoR l ((yearR l).2 + 4)) * 86400000) else none)
 else none

theorem digR_at (p r : List UInt8) (k : Nat) : digR (p ++ r) (p.length + k) = digR r k := by
 unfold digR; rw [List.getElem?_append_right (by omega), Nat.add_sub_cancel_left]
theorem dvR_at (p r : List UInt8) (k : Nat) : dvR (p ++ r) (p.length + k) = dvR r k := by
 unfold dvR; rw [List.getElem?_append_right (by omega), Nat.add_sub_cancel_left]
theorem twoR_at (p r : List UInt8) (k : Nat) : twoR (p ++ r) (p.length + k) = twoR r k := by
 unfold twoR; rw [Nat.add_assoc, digR_at, digR_at, dvR_at, dvR_at]
theorem signR_at (p r : List UInt8) (k : Nat) (c : UInt8) : signR (p ++ r) (p.length + k) c = signR r k c := by
 unfold signR; rw [List.getElem?_append_right (by omega), Nat.add_sub_cancel_left]

theorem yearR_none (l : List UInt8) (h : yearP l = none) : yearR l = (0, 0) := by
 unfold yearP at h
 unfold yearR
 split at h
 ·cases h
 ·rename_i g; rw [if_neg g]
theorem yearR_some (l : List UInt8) (y : Nat) (r : List UInt8) (h : yearP l = some (y, r)) : ∃ ds, l = ds ++ r ∧ yearR l = (y, ds.length) ∧ 4 ≤ ds.length ∧ 1 ≤ y ∧ y ≤ 275760 := by
 obtain ⟨ds, h1, h2, h3, h4, h5⟩ := yearP_form l y r h
 refine ⟨ds, h1, ?_, ?_⟩
 ·unfold yearP at h
  unfold yearR
  split at h
  ·rename_i g
   rw [if_pos g]
   cases h
   rw [h5]
  ·cases h
 ·unfold yOk at h3
  simp only [Bool.and_eq_true, decide_eq_true_eq] at h3
  omega
theorem twoR_some (a b : UInt8) (r : List UInt8) (ha : isDig a = true) (hb : isDig b = true) : twoR (a :: b :: r) 0 = ((dv a * 10 + dv b : Nat) : Int) := by
 unfold twoR digR dvR
 simp [ha, hb]
theorem twoR_two (l : List UInt8) : (two l = none ∧ twoR l 0 = -1) ∨ ∃ n r, two l = some (n, r) ∧ twoR l 0 = n ∧ l.length = r.length + 2 ∧ n < 100 := by
 match l with
 | [] => left; exact ⟨rfl, rfl⟩
 | [a] => left; exact ⟨rfl, by simp [twoR, digR]⟩
 | a :: b :: r =>
  by_cases h : (isDig a && isDig b) = true
  ·right
   rw [Bool.and_eq_true] at h
   exact ⟨_, r, two_of a b r h.1 h.2, twoR_some a b r h.1 h.2, rfl, two_lt _ _ _ (two_of a b r h.1 h.2)⟩
  ·left
   have e : two (a :: b :: r) = if (isDig a && isDig b) = true then some (dv a * 10 + dv b, r) else none := rfl
   refine ⟨by rw [e, if_neg h], ?_⟩
   unfold twoR digR
   simp only [List.getElem?_cons_zero, List.getElem?_cons_succ, Nat.zero_add]
   rw [if_neg h]

theorem dOk_iff (y m d : Nat) (h1 : 1 ≤ y) (h2 : y ≤ 275760) : dOk y m d = true ↔ dOkI y m d := by
 unfold dOk dOkI
 simp only [Bool.and_eq_true, decide_eq_true_eq]
 omega

theorem tail6 (r : List UInt8) (h : r.length = 6) : ∃ a b c d e f, r = [a, b, c, d, e, f] := by
 match r, h with
 | [a, b, c, d, e, f], _ => exact ⟨a, b, c, d, e, f, rfl⟩

theorem dayR_eq (l : List UInt8) : dayR l = whole (dateP l) := by
 cases hy : yearP l with
 | none =>
  have e : dateP l = none := by unfold dateP; rw [hy]
  unfold dayR
  rw [yearR_none l hy, e, if_neg (fun g => g.1 rfl)]; rfl
 | some yr =>
  obtain ⟨y, r⟩ := yr
  obtain ⟨ds, hl, hR, h4, hy1, hy2⟩ := yearR_some l y r hy
  unfold dayR
  rw [hR]
  dsimp only
  have z0 : ds.length ≠ 0 := by omega
  have hlen : l.length = ds.length + r.length := by rw [hl, List.length_append]
  have es0 : signR l ds.length 45 = signR r 0 45 := by rw [hl]; exact signR_at ds r 0 45
  have es3 : signR l (ds.length + 3) 45 = signR r 3 45 := by rw [hl]; exact signR_at ds r 3 45
  have et1 : twoR l (ds.length + 1) = twoR r 1 := by rw [hl]; exact twoR_at ds r 1
  have et4 : twoR l (ds.length + 4) = twoR r 4 := by rw [hl]; exact twoR_at ds r 4
  rw [es0, es3, et1, et4]
  by_cases h6 : r.length = 6
  ·obtain ⟨a, b, c, d, e, f, rfl⟩ := tail6 r h6
   have e1 : twoR [a, b, c, d, e, f] 1 = twoR [b, c, d, e, f] 0 := rfl
   have e4 : twoR [a, b, c, d, e, f] 4 = twoR [e, f] 0 := rfl
   rw [e1, e4]
   have hlt : l.length = ds.length + 6 := by rw [hlen]; rfl
   by_cases ha : a = 45
   ·by_cases hd : d = 45
    ·subst ha
     subst hd
     rw [if_pos ⟨z0, hlt, rfl, rfl⟩]
     rcases twoR_two [b, c, 45, e, f] with ⟨g1, g2⟩ | ⟨m, q, g1, g2, g3, g4⟩
     ·have : dateP l = none := by unfold dateP; rw [hy]; simp only [sgn_of, g1]
      rw [this, if_neg (by rw [g2]; unfold dOkI; omega)]; rfl
     ·have hq : q = [45, e, f] := by
       obtain ⟨x, z, k1, _, _, _⟩ := two_form _ _ _ g1
       have := List.cons.inj k1
       have := List.cons.inj this.2
       exact this.2.symm
      subst hq
      rcases twoR_two [e, f] with ⟨k1, k2⟩ | ⟨dd, q, k1, k2, k3, k4⟩
      ·have : dateP l = none := by unfold dateP; rw [hy]; simp only [sgn_of, g1, k1]
       rw [this, if_neg (by rw [k2]; unfold dOkI; omega)]; rfl
      ·have hq : q = [] := by
        simp at k3; exact k3
       subst hq
       rw [g2, k2]
       by_cases hok : dOk y m dd = true
       ·rw [if_pos ((dOk_iff y m dd hy1 hy2).1 hok), dateP_of l y m dd _ [b, c, 45, e, f] _ [e, f] [] hy rfl g1 rfl k1 hok]
        rfl
       ·have : dateP l = none := by unfold dateP; rw [hy]; simp only [sgn_of, g1, k1]; rw [if_neg hok]
        rw [this, if_neg (fun g => hok ((dOk_iff y m dd hy1 hy2).2 g))]; rfl
    ·have : whole (dateP l) = none := by
      cases hh : dateP l with
      | none => rfl
      | some vr =>
       exfalso
       obtain ⟨v, rr⟩ := vr
       obtain ⟨y', m, d', r1, r2, r3, r4, k1, k2, k3, k4, k5, k6, k7⟩ := dateP_form l v rr hh
       rw [hy] at k1
       cases k1
       obtain ⟨x, z, q1, _⟩ := two_form r2 m r3 k3
       rw [q1, k4] at k2
       simp at k2
       exact hd k2.2.2.2.1
     rw [this, if_neg]
     rintro ⟨_, _, _, g⟩
     apply hd
     simpa [signR] using g
   ·have : dateP l = none := by
     unfold dateP; rw [hy]
     simp only [sgn, if_neg ha]
    rw [this, if_neg]
    ·rfl
    ·rintro ⟨_, _, g, _⟩
     apply ha
     simpa [signR] using g
  ·have : whole (dateP l) = none := by
    cases hh : dateP l with
    | none => rfl
    | some vr =>
     obtain ⟨v, rr⟩ := vr
     cases rr with
     | cons c t => rfl
     | nil =>
      exfalso
      obtain ⟨y', m, d', r1, r2, r3, r4, k1, k2, k3, k4, k5, k6, k7⟩ := dateP_form l v [] hh
      rw [hy] at k1
      cases k1
      obtain ⟨x, z, q1, _⟩ := two_form r2 m r3 k3
      obtain ⟨x', z', q2, _⟩ := two_form r4 d' [] k5
      rw [k2, q1, k4, q2] at h6
      exact h6 rfl
   rw [this, if_neg]
   rintro ⟨_, g, _⟩
   exact h6 (by omega)

def monthR (l : List UInt8) : Option Int :=
 if (yearR l).2 > 0 ∧ l.length = (yearR l).2 + 3 ∧ signR l (yearR l).2 45 = true ∧ 1 ≤ twoR l ((yearR l).2 + 1) ∧ twoR l ((yearR l).2 + 1) ≤ 12 then some ((((yearR l).1 : Int) - 1970) * 12 + twoR l ((yearR l).2 + 1) - 1) else none
theorem monthR_eq (l : List UInt8) : monthR l = whole (monthP l) := by
 cases hy : yearP l with
 | none =>
  have e : monthP l = none := by unfold monthP; rw [hy]
  unfold monthR
  rw [yearR_none l hy, e, if_neg (fun g => by have := g.1; simp at this)]; rfl
 | some yr =>
  obtain ⟨y, r⟩ := yr
  obtain ⟨ds, hl, hR, h4, hy1, hy2⟩ := yearR_some l y r hy
  unfold monthR
  rw [hR]
  dsimp only
  have hlen : l.length = ds.length + r.length := by rw [hl, List.length_append]
  have es0 : signR l ds.length 45 = signR r 0 45 := by rw [hl]; exact signR_at ds r 0 45
  have et1 : twoR l (ds.length + 1) = twoR r 1 := by rw [hl]; exact twoR_at ds r 1
  rw [es0, et1]
  cases r with
  | nil =>
   have e : monthP l = none := by unfold monthP; rw [hy]; rfl
   rw [e, if_neg (fun g => by have := g.2.1; simp at hlen; omega)]; rfl
  | cons a r =>
   have e1 : twoR (a :: r) 1 = twoR r 0 := by
    show twoR ([a] ++ r) ([a].length + 0) = _
    rw [twoR_at]
   rw [e1]
   by_cases ha : a = 45
   ·subst ha
    rcases twoR_two r with ⟨g1, g2⟩ | ⟨m, q, g1, g2, g3, g4⟩
    ·have e : monthP l = none := by unfold monthP; rw [hy]; simp only [sgn_of, g1]
     rw [e, if_neg (fun g => by have := g.2.2.2.1; omega)]; rfl
    ·have e : monthP l = if (decide (1 ≤ m) && decide (m ≤ 12)) = true then some (12 * ((y : Int) - 1970) + m - 1, q) else none := by
      unfold monthP; rw [hy]; simp only [sgn_of, g1]
     rw [e, g2]
     simp only [List.length_cons] at hlen
     have hb : (decide (1 ≤ m) && decide (m ≤ 12)) = true ↔ (1 ≤ m ∧ m ≤ 12) := by simp
     cases q with
     | nil =>
      by_cases hm : 1 ≤ m ∧ m ≤ 12
      ·rw [if_pos ⟨by omega, by simp at g3; omega, rfl, by omega, by omega⟩, if_pos (hb.2 hm)]
       show some _ = some _
       congr 1; omega
      ·rw [if_neg (fun g => hm (by have := g.2.2.2; omega)), if_neg (fun g => hm (hb.1 g))]; rfl
     | cons c t =>
      rw [if_neg (fun g => by have := g.2.1; simp at g3; omega)]
      by_cases hm : 1 ≤ m ∧ m ≤ 12
      ·rw [if_pos (hb.2 hm)]; rfl
      ·rw [if_neg (fun g => hm (hb.1 g))]; rfl
   ·have e : monthP l = none := by unfold monthP; rw [hy]; simp only [sgn, if_neg ha]
    rw [e, if_neg (fun g => ha (by simpa [signR] using g.2.2.1))]; rfl

def weekR (l : List UInt8) : Option Int :=
 if (yearR l).2 ≠ 0 ∧ l.length = (yearR l).2 + 4 ∧ signR l (yearR l).2 45 = true ∧ signR l ((yearR l).2 + 1) 87 = true then
  (if wOkI (yearR l).1 (twoR l ((yearR l).2 + 2)) then some ((firstW (yearR l).1 + 7 * (twoR l ((yearR l).2 + 2) - 1)) * 86400000) else none)
 else none
theorem wOk_iff (y w : Nat) (h1 : 1 ≤ y) (h2 : y ≤ 275760) : wOk y w = true ↔ wOkI y w := by
 unfold wOk wOkI
 simp only [Bool.and_eq_true, decide_eq_true_eq]
 omega
theorem weekR_eq (l : List UInt8) : weekR l = whole (weekP l) := by
 cases hy : yearP l with
 | none =>
  have e : weekP l = none := by unfold weekP; rw [hy]
  unfold weekR
  rw [yearR_none l hy, e, if_neg (fun g => g.1 rfl)]; rfl
 | some yr =>
  obtain ⟨y, r⟩ := yr
  obtain ⟨ds, hl, hR, h4, hy1, hy2⟩ := yearR_some l y r hy
  unfold weekR
  rw [hR]
  dsimp only
  have hlen : l.length = ds.length + r.length := by rw [hl, List.length_append]
  have es0 : signR l ds.length 45 = signR r 0 45 := by rw [hl]; exact signR_at ds r 0 45
  have es1 : signR l (ds.length + 1) 87 = signR r 1 87 := by rw [hl]; exact signR_at ds r 1 87
  have et1 : twoR l (ds.length + 2) = twoR r 2 := by rw [hl]; exact twoR_at ds r 2
  rw [es0, es1, et1]
  match r with
  | [] =>
   have e : weekP l = none := by unfold weekP; rw [hy]; rfl
   rw [e, if_neg (fun g => by have := g.2.1; simp at hlen; omega)]; rfl
  | [a] =>
   have e : weekP l = none := by
    unfold weekP; rw [hy]
    by_cases ha : a = 45
    ·subst ha; simp only [sgn_of]; rfl
    ·simp only [sgn, if_neg ha]
   rw [e, if_neg (fun g => by have := g.2.1; simp at hlen; omega)]; rfl
  | a :: b :: r =>
   have e1 : twoR (a :: b :: r) 2 = twoR r 0 := by
    show twoR ([a, b] ++ r) ([a, b].length + 0) = _
    rw [twoR_at]
   rw [e1]
   by_cases ha : a = 45
   ·by_cases hb : b = 87
    ·subst ha
     subst hb
     rcases twoR_two r with ⟨g1, g2⟩ | ⟨m, q, g1, g2, g3, g4⟩
     ·have e : weekP l = none := by unfold weekP; rw [hy]; simp only [sgn_of, g1]
      rw [e]
      show _ = none
      by_cases hc : ds.length ≠ 0 ∧ l.length = ds.length + 4 ∧ signR (45 :: 87 :: r) 0 45 = true ∧ signR (45 :: 87 :: r) 1 87 = true
      ·rw [if_pos hc, if_neg (by rw [g2]; unfold wOkI; omega)]
      ·rw [if_neg hc]
     ·have e : weekP l = if wOk y m = true then some ((firstW y + 7 * ((m : Int) - 1)) * 86400000, q) else none := by
       unfold weekP; rw [hy]; simp only [sgn_of, g1]
      rw [e, g2]
      simp only [List.length_cons] at hlen
      cases q with
      | nil =>
       rw [if_pos ⟨by omega, by simp at g3; omega, rfl, rfl⟩]
       by_cases hm : wOk y m = true
       ·rw [if_pos hm, if_pos ((wOk_iff y m hy1 hy2).1 hm)]; rfl
       ·rw [if_neg hm, if_neg (fun g => hm ((wOk_iff y m hy1 hy2).2 g))]; rfl
      | cons c t =>
       rw [if_neg (fun g => by have := g.2.1; simp at g3; omega)]
       by_cases hm : wOk y m = true
       ·rw [if_pos hm]; rfl
       ·rw [if_neg hm]; rfl
    ·have e : weekP l = none := by unfold weekP; rw [hy]; subst ha; simp only [sgn_of]; simp only [sgn, if_neg hb]
     rw [e, if_neg (fun g => hb (by simpa [signR] using g.2.2.2))]; rfl
   ·have e : weekP l = none := by unfold weekP; rw [hy]; simp only [sgn, if_neg ha]
    rw [e, if_neg (fun g => ha (by simpa [signR] using g.2.2.1))]; rfl

def clockT (n : Int) (t : List UInt8) : Option Int :=
 if t.length = 0 then some n
 else if signR t 0 58 = false ∨ twoR t 1 < 0 ∨ 59 < twoR t 1 then none
 else if t.length = 3 then some (n + twoR t 1 * 1000)
 else if signR t 3 46 = false ∨ t.length < 5 ∨ 7 < t.length then none
 else if allDig (t.drop 4) = true then some (n + twoR t 1 * 1000 + ((val (t.drop 4) * 10 ^ (7 - t.length) : Nat) : Int)) else none
def clockR (l : List UInt8) : Option Int :=
 if l.length < 5 ∨ signR l 2 58 = false then none
 else if twoR l 0 < 0 ∨ 23 < twoR l 0 ∨ twoR l 3 < 0 ∨ 59 < twoR l 3 then none
 else clockT (twoR l 0 * 3600000 + twoR l 3 * 60000) (l.drop 5)

theorem sgn_no (c d : UInt8) (t : List UInt8) (h : ¬ d = c) : sgn c (d :: t) = none := by simp only [sgn, if_neg h]

theorem thou_whole (p : List UInt8) (n : Int) : (match thou p with | none => none | some (q, r) => whole (some (n + (q : Int), r))) = if 1 ≤ p.length ∧ p.length ≤ 3 ∧ allDig p = true then some (n + ((val p * 10 ^ (3 - p.length) : Nat) : Int)) else none := by
 have hle := cnt_le p
 have hall := cnt_all p
 by_cases h : 1 ≤ p.length ∧ p.length ≤ 3 ∧ allDig p = true
 ·obtain ⟨h1, h2, h3⟩ := h
  have hc := hall.2 h3
  have e : thou p = some (val p * 10 ^ (3 - p.length), []) := by
   unfold thou
   simp only []
   rw [hc, Nat.min_eq_left h2, if_neg (by omega), List.take_length, List.drop_length]
  rw [e, if_pos ⟨h1, h2, h3⟩]
  rfl
 ·rw [if_neg h]
  unfold thou
  simp only []
  by_cases h0 : min (cnt p) 3 = 0
  ·rw [if_pos h0]
  ·rw [if_neg h0]
   have : p.drop (min (cnt p) 3) ≠ [] := by
    intro g
    have g2 : p.length ≤ min (cnt p) 3 := List.drop_eq_nil_iff.1 g
    apply h
    exact ⟨by omega, by omega, hall.1 (by omega)⟩
   cases hd : p.drop (min (cnt p) 3) with
   | nil => exact absurd hd this
   | cons c t => rfl

theorem clockT_eq (n : Nat) (t : List UInt8) : clockT n t = whole (minT n t) := by
 unfold minT
 cases t with
 | nil => rfl
 | cons a r =>
  by_cases ha : a = 58
  ·subst ha
   rw [if_pos (show (58 :: r).head? = some 58 from rfl)]
   show _ = whole (secP n r)
   unfold clockT secP
   rw [if_neg (by simp)]
   have e1 : twoR (58 :: r) 1 = twoR r 0 := by
    exact twoR_at [58] r 0
   have e0 : signR (58 :: r) 0 58 = true := rfl
   rw [e1, e0]
   rcases twoR_two r with ⟨g1, g2⟩ | ⟨s, q, g1, g2, g3, g4⟩
   ·rw [if_pos (by right; left; omega), g1]; rfl
   ·rw [g1, g2]
    dsimp only
    by_cases hs : s < 60
    ·rw [if_neg (by simp; omega), if_pos hs]
     have hl : (58 :: r).length = q.length + 3 := by simp; omega
     rw [hl]
     obtain ⟨x, z, hr, _⟩ := two_form r s q g1
     subst hr
     unfold secT
     cases q with
     | nil => rw [if_pos (by simp), if_neg (by simp)]; show some _ = some _; congr 1; omega
     | cons c p =>
      rw [if_neg (by simp)]
      have e3 : signR (58 :: x :: z :: c :: p) 3 46 = (c == 46) := by
       unfold signR
       simp
      rw [e3]
      by_cases hc : c = 46
      ·subst hc
       have := thou_whole p ((n + 1000 * s : Nat) : Int)
       have e4 : (58 :: x :: z :: 46 :: p).drop 4 = p := rfl
       have e5 : whole (match thou p with | none => none | some (p, r2) => some (((n + 1000 * s + p : Nat) : Int), r2)) = (match thou p with | none => none | some (q, r) => whole (some (((n + 1000 * s : Nat) : Int) + (q : Int), r))) := by
        cases thou p with
        | none => rfl
        | some v => obtain ⟨a, b⟩ := v; rfl
       rw [if_pos (show (46 :: p).head? = some 46 from rfl)]
       show _ = whole (match thou p with | none => none | some (p, r2) => some (((n + 1000 * s + p : Nat) : Int), r2))
       rw [e4, e5, this]
       have e6 : 7 - ((46 :: p).length + 3) = 3 - p.length := by simp only [List.length_cons]; omega
       rw [e6]
       by_cases hh : 1 ≤ p.length ∧ p.length ≤ 3
       ·rw [if_neg (by simp; omega)]
        by_cases hd : allDig p = true
        ·rw [if_pos hd, if_pos ⟨hh.1, hh.2, hd⟩]
         congr 1; omega
        ·rw [if_neg hd, if_neg (fun g => hd g.2.2)]
       ·rw [if_pos (by simp; omega), if_neg (fun g => hh ⟨g.1, g.2.1⟩)]
      ·rw [if_pos (by left; simpa using hc), if_neg (by simpa using hc)]
       rfl
    ·rw [if_pos (by right; right; omega), if_neg hs]; rfl
  ·rw [if_neg (by simpa using ha)]
   unfold clockT
   rw [if_neg (by simp), if_pos (by left; simpa [signR] using ha)]
   rfl

theorem clockR_eq (l : List UInt8) : clockR l = whole (timeP l) := by
 unfold clockR timeP
 rcases twoR_two l with ⟨g1, g2⟩ | ⟨h, r, g1, g2, g3, g4⟩
 ·rw [g1, g2]
  dsimp only
  by_cases hc : l.length < 5 ∨ signR l 2 58 = false
  ·rw [if_pos hc]; rfl
  ·rw [if_neg hc, if_pos (by left; omega)]; rfl
 ·rw [g1, g2]
  dsimp only
  obtain ⟨a, b, hl, _⟩ := two_form l h r g1
  subst hl
  cases r with
  | nil => rw [if_pos (by left; simp)]; rfl
  | cons c r =>
   have e2 : signR (a :: b :: c :: r) 2 58 = (c == 58) := by unfold signR; simp
   rw [e2]
   by_cases hc : c = 58
   ·subst hc
    rw [sgn_of]
    dsimp only
    have e3 : twoR (a :: b :: 58 :: r) 3 = twoR r 0 := by
     exact twoR_at [a, b, 58] r 0
    rw [e3]
    rcases twoR_two r with ⟨k1, k2⟩ | ⟨m, t, k1, k2, k3, k4⟩
    ·rw [k1, k2]
     by_cases hc : (a :: b :: 58 :: r).length < 5 ∨ ((58 : UInt8) == 58) = false
     ·rw [if_pos hc]; rfl
     ·rw [if_neg hc, if_pos (by right; right; left; omega)]; rfl
    ·rw [k1, k2]
     dsimp only
     obtain ⟨x, z, hr, _⟩ := two_form r m t k1
     subst hr
     rw [if_neg (by simp)]
     by_cases hm : h < 24 ∧ m < 60
     ·rw [if_neg (by omega), if_pos (by simp; exact hm)]
      have e5 : (a :: b :: 58 :: x :: z :: t).drop 5 = t := rfl
      rw [e5, show ((h : Int) * 3600000 + (m : Int) * 60000) = (((h * 60 + m) * 60000 : Nat) : Int) from by omega]
      exact clockT_eq _ t
     ·rw [if_pos (by omega), if_neg (by simp; omega)]; rfl
   ·rw [sgn_no 58 c r hc, if_pos (by right; simpa using hc)]; rfl

def midR : List UInt8 → Option (List UInt8 × List UInt8)
 | [] => none
 | c :: r => if isMid c then some ([], r) else (midR r).map fun x => (c :: x.1, x.2)
def localR (l : List UInt8) : Option Int := match midR l with
 | none => none
 | some (p, r) => match dayR p, clockR r with
  | some d, some t => some (d + t)
  | _, _ => none

theorem midR_spec (l : List UInt8) : (midR l = none ∧ l.all (fun c => !isMid c) = true) ∨ ∃ p c r, midR l = some (p, r) ∧ l = p ++ c :: r ∧ isMid c = true ∧ p.all (fun c => !isMid c) = true := by
 induction l with
 | nil => left; exact ⟨rfl, rfl⟩
 | cons c r ih =>
  cases h : isMid c
  ·rcases ih with ⟨h1, h2⟩ | ⟨p, d, q, h1, h2, h3, h4⟩
   ·left
    refine ⟨by rw [midR, if_neg (by simp [h]), h1]; rfl, by rw [List.all_cons, h, h2]; rfl⟩
   ·right
    refine ⟨c :: p, d, q, by rw [midR, if_neg (by simp [h]), h1]; rfl, by rw [h2]; rfl, h3, by rw [List.all_cons, h, h4]; rfl⟩
  ·right
   exact ⟨[], c, r, by rw [midR, if_pos h], rfl, h, rfl⟩

theorem midR_at (p : List UInt8) (c : UInt8) (r : List UInt8) (hp : p.all (fun c => !isMid c) = true) (hc : isMid c = true) : midR (p ++ c :: r) = some (p, r) := by
 induction p with
 | nil => rw [List.nil_append, midR, if_pos hc]
 | cons a t ih =>
  rw [List.all_cons, Bool.and_eq_true] at hp
  have ha : isMid a = false := by simpa using hp.1
  rw [List.cons_append, midR, if_neg (by simp [ha]), ih hp.2]; rfl

theorem mid_iff (c : UInt8) : isMid c = true ↔ (c = 32 ∨ c = 84) := by
 unfold isMid
 simp only [Bool.or_eq_true, beq_iff_eq]
 exact Or.comm

theorem whole_some {o : Option (Int × List UInt8)} {v : Int} (h : whole o = some v) : o = some (v, []) := by
 cases o with
 | none => cases h
 | some x =>
  obtain ⟨a, b⟩ := x
  cases b with
  | nil => cases h; rfl
  | cons c t => cases h

theorem localP_form (l : List UInt8) (v : Int) (r : List UInt8) (h : localP l = some (v, r)) : ∃ d r1 c r2 t, dateP l = some (d, r1) ∧ r1 = c :: r2 ∧ isMid c = true ∧ timeP r2 = some (t, r) ∧ v = d + t := by
 unfold localP at h
 split at h
 ·cases h
 ·rename_i d r1 e1
  split at h
  ·cases h
  ·rename_i r2 e2
   split at h
   ·cases h
   ·rename_i t r3 e3
    cases h
    cases r1 with
    | nil => cases e2
    | cons c q =>
     have e : midP (c :: q) = if c = 32 ∨ c = 84 then some q else none := rfl
     rw [e] at e2
     by_cases g : c = 32 ∨ c = 84
     ·rw [if_pos g] at e2
      cases e2
      exact ⟨d, _, c, _, t, e1, rfl, (mid_iff c).2 g, e3, rfl⟩
     ·rw [if_neg g] at e2; cases e2

theorem localP_of (l : List UInt8) (d t : Int) (c : UInt8) (r2 r : List UInt8) (h1 : dateP l = some (d, c :: r2)) (hc : isMid c = true) (h2 : timeP r2 = some (t, r)) : localP l = some (d + t, r) := by
 unfold localP
 rw [h1]
 have e : midP (c :: r2) = if c = 32 ∨ c = 84 then some r2 else none := rfl
 dsimp only
 rw [e, if_pos ((mid_iff c).1 hc)]
 dsimp only
 rw [h2]

theorem localR_eq (l : List UInt8) : localR l = whole (localP l) := by
 apply Option.ext
 intro v
 constructor
 ·intro h
  unfold localR at h
  rcases midR_spec l with ⟨h1, _⟩ | ⟨p, c, r, h1, h2, h3, h4⟩
  ·rw [h1] at h; cases h
  ·rw [h1] at h
   dsimp only at h
   rw [dayR_eq, clockR_eq] at h
   cases hd : whole (dateP p) with
   | none => rw [hd] at h; cases h
   | some d =>
    cases ht : whole (timeP r) with
    | none => rw [hd, ht] at h; cases h
    | some t =>
     rw [hd, ht] at h
     cases h
     have e1 := dateP_app p d [] (c :: r) (whole_some hd)
     rw [← h2] at e1
     rw [localP_of l d t c r [] e1 h3 (whole_some ht)]
     rfl
 ·intro h
  obtain ⟨d, r1, c, r2, t, h1, h2, h3, h4, h5⟩ := localP_form l v [] (whole_some h)
  subst h2
  obtain ⟨p, k1, k2, k3⟩ := date_mid l d (c :: r2) h1
  unfold localR
  rw [k1, midR_at p c r2 k2 h3]
  dsimp only
  rw [dayR_eq, clockR_eq, k3, h4, h5]
  rfl

def parseR (kind : Int) (l : List UInt8) : Option Int :=
 if kind = 1 then dayR l else if kind = 2 then monthR l else if kind = 3 then weekR l else if kind = 4 then clockR l else localR l
theorem parseR_eq (kind : Int) (l : List UInt8) (h1 : 1 ≤ kind) (h2 : kind ≤ 5) : parseR kind l = whole (partP kind l) := by
 have hk : kind = 1 ∨ kind = 2 ∨ kind = 3 ∨ kind = 4 ∨ kind = 5 := by omega
 rcases hk with rfl | rfl | rfl | rfl | rfl
 ·exact dayR_eq l
 ·exact monthR_eq l
 ·exact weekR_eq l
 ·exact clockR_eq l
 ·exact localR_eq l
end Go.Proofs.YtkhlfggnjcbniaaGreatDoor.mom
namespace Go.Proofs.YtkhlfggnjcbniaaGreatDoor.num
open Go.ChangeShapes Go.WideShapes Go.ChangeAt Go.RowKit

theorem ret_int {k : IntKind} {a b : Int} (h : a = b) : Ending.returned (.int k a) = .returned (.int k b) := by rw [h]

theorem count_any (l : List UInt8) (k : Nat) (w : World) (hk : k ≤ l.length) (hl : l.length ≤ 1000000000) :
  Calls Tryz.prog 277 #[.string ⟨l.toArray⟩, .int .i64 k] w fun e w' => e = .returned (.int .i64 (cnt (l.drop k) : Nat)) ∧ w = w' := by
 go_enter Tryz.func277, Tryz.ntmps277
 go_wp2
 go_loop [5] (fun i => ∃ j : Nat, k + j ≤ l.length ∧ cnt (l.drop k) = j + cnt (l.drop (k + j)) ∧ i = .int .i64 j) (fun i => l.length - k - (intOf i).toNat)
 case atStart => exact ⟨0, by omega, by simp, rfl⟩
 case round =>
  obtain ⟨j, hj, he, rfl⟩ := hrel
  have HE := Lib.hid he; clear he
  by_cases hlt : k + j < l.length
  ·obtain ⟨c, rest, h1, h2, h3⟩ := byte_at l (k + j) hlt
   have H1 := Lib.hid h1; have H2 := Lib.hid h2; clear h1 h2
   cases hd : isDig c
   ·have hb := isDig_no c hd
    have HD := Lib.hid hd; clear hd
    rcases hb with hb | hb
    all_goals
     go_wp2
     go_ret
     exact ⟨ret_int (by rw [HE.out, H1.out, cnt, HD.out]; simp), rfl⟩
   ·have hb := (isDig_iff c).1 hd
    have HD := Lib.hid hd; clear hd
    obtain ⟨hb1, hb2⟩ := hb
    go_wp2
    go_round
    case rel => exact ⟨j + 1, by omega, by rw [HE.out, H1.out, cnt, HD.out, ← Nat.add_assoc, H2.out]; simp; omega, by go_num⟩
    case measure => simp [intOf]; omega
  ·go_wp2
   go_ret
   exact ⟨ret_int (by rw [HE.out, List.drop_eq_nil_of_le (by omega)]; simp [cnt]), rfl⟩

theorem count_at (l : List UInt8) (a : Int) (k : Nat) (w : World) (ha : a = k) (hk : k ≤ l.length) (hl : l.length ≤ 1000000000) :
  Calls Tryz.prog 277 #[.string ⟨l.toArray⟩, .int .i64 a] w fun e w' => e = .returned (.int .i64 (cnt (l.drop k) : Nat)) ∧ w = w' := by
 subst ha; exact count_any l k w hk hl
end Go.Proofs.YtkhlfggnjcbniaaGreatDoor.num
namespace Go.Proofs.YtkhlfggnjcbniaaGreatDoor
open Go.ChangeShapes Go.WideShapes Go.Deep Go.RowKit
section
variable {H : Type} {P : Program}
def Light (P : Program) (t : TypeId) (d : DataW H) : Prop := ∀ n ∈ d.weights P t, n ≤ reachBytes
theorem Light.str {t : TypeId} {bs : List UInt8} (h : Light P t (.lit (.string bs) : DataW H)) : bs.length ≤ reachBytes := h _ (by simp [DataW.weights])
theorem Light.slice {t e : TypeId} {a b : List (DataW H)} (hu : P.underlying t = some (.slice e)) (h : Light P t (.slice a b : DataW H)) : (a.length + b.length) * P.bytesOf e ≤ reachBytes :=
 h _ (by simp [DataW.weights, hu])
theorem mem_all {e : TypeId} : ∀ {l : List (DataW H)} {i : Nat} {d : DataW H}, l[i]? = some d → ∀ n ∈ d.weights P e, n ∈ DataW.weightsAll P e l
 | x :: l, 0, d, h, n, hn => by
  simp only [List.getElem?_cons_zero, Option.some.injEq] at h
  subst h
  simp only [DataW.weightsAll, List.mem_append]
  exact Or.inl hn
 | x :: l, i + 1, d, h, n, hn => by
  simp only [List.getElem?_cons_succ] at h
  simp only [DataW.weightsAll, List.mem_append]
  exact Or.inr (mem_all h n hn)
 | [], _, _, h, _, _ => by simp at h
theorem Light.elem {t e : TypeId} {a b : List (DataW H)} (hu : P.underlying t = some (.slice e)) (h : Light P t (.slice a b : DataW H)) {i : Nat} {d : DataW H} (hi : a[i]? = some d) : Light P e d :=
 fun n hn => h n (by
  have := mem_all hi n hn
  simp [DataW.weights, hu, this])
theorem Light.field {t : TypeId} {fs : Array Field} {ps : List (DataW H)} (hu : P.underlying t = some (.struct fs)) (h : Light P t (.agg ps : DataW H)) {j : Nat} {f : Field} {d : DataW H} (hf : fs[j]? = some f) (hd : ps[j]? = some d) : Light P f.type d :=
 fun n hn => h n (by
  have : n ∈ DataW.weightsEach P (fs.toList.map (·.type)) ps := DataW.weights_mem_each (j := j) (t := f.type) (by simp [hf]) hd n hn
  simpa [DataW.weights, hu] using this)
theorem Light.arg {ts : List TypeId} {ds : List (DataW H)} (h : (DataW.weightsEach P ts ds).all (· ≤ reachBytes) = true) {j : Nat} {t : TypeId} {d : DataW H} (ht : ts[j]? = some t) (hd : ds[j]? = some d) : Light P t d := by
 intro n hn
 have := List.all_eq_true.1 h n (DataW.weights_mem_each ht hd n hn)
 simpa using this
end
section
variable {H : Type} {enc : TypeId × Value → H} {P : Program} {w : World} {base : Nat} {spare : Nat → Bool} {held : Bool}
theorem open_rows {t e : TypeId} {fs : Array Field} {fuel : Nat} {cs : List Value} {x : DataW H × List MemPlace} (ht : P.underlying t = some (.slice e)) (he : P.underlying e = some (.struct fs))
  (hone : oneCellFields P fs = true) (hC : P.cellsOf e = fs.size) (h : DataW.trod enc P w base spare held fuel t cs = some x) (hL : Light P t x.1) :
  (cs = [.slice none 0 0] ∧ x = (.nil, [])) ∨
  ∃ (a : Addr) (len cap : Nat), cs = [.slice (some a) len cap] ∧ len ≤ cap ∧ cap ≤ maxLen ∧ len * P.bytesOf e ≤ reachBytes ∧ (∀ k, k < len * fs.size → .cell a.block (a.off + k) ∈ x.2) ∧
   ∀ i, i < len → ∀ (j : Nat) (f : Field), fs[j]? = some f → ∃ (v : Value) (y : DataW H × List MemPlace) (n : Nat), w.cell? (a.add (i * fs.size + j)) = some v ∧ DataW.trod enc P w base spare held n f.type [v] = some y ∧ Light P f.type y.1 ∧ ∀ p ∈ y.2, p ∈ x.2 := by
 rcases open_slice ht h with h0 | ⟨a, len, cap, m, n, D, Pl, hcs, hb, hl, hm, hmm, hx, hi⟩
 ·exact .inl h0
 ·have hml : len ≤ m := by rw [hmm]; split <;> omega
  refine .inr ⟨a, len, cap, hcs, hl, hm, ?_, ?_, fun i hil j f hj => ?_⟩
  ·rw [hx] at hL
   have := hL.slice ht
   simp only [List.length_map, List.length_range] at this
   exact Nat.le_trans (Nat.mul_le_mul (Nat.le_add_right _ _) (Nat.le_refl _)) this
  ·intro k hk
   rw [hx, hC]
   refine List.mem_append_left _ (MemPlace.mem_row.2 ⟨k, ?_, rfl⟩)
   exact Nat.lt_of_lt_of_le hk (Nat.mul_le_mul hml (Nat.le_refl _))
  ·have him : i < m := Nat.lt_of_lt_of_le hil hml
   have hLi : Light P e (D i) := by
    rw [hx] at hL
    exact hL.elem ht (i := i) (by simp [hil])
   obtain ⟨cs', hc, ht'⟩ := hi i him
   rw [hC] at hc
   obtain ⟨ys, n', hn', hy, hlen, hyl, hf⟩ := DataW.trod_struct he ht'
   obtain ⟨_, hcl, hat⟩ := World.cells?_some hc
   simp only [Prod.mk.injEq] at hy
   obtain ⟨ho, hk⟩ := hone_of hone j f hj
   have hjl : j < fs.size := (Array.getElem?_eq_some_iff.1 hj).1
   have hcell := hat j hjl
   have hv : cs'[j]? = some (cs'[j]'(by omega)) := List.getElem?_eq_getElem (by omega)
   have h1 := hf j f hj
   rw [ho, hk] at h1
   have hone' : (cs'.drop j).take 1 = [cs'[j]'(by omega)] := by
    rw [List.drop_eq_getElem_cons (by omega)]
    rfl
   rw [hone'] at h1
   have hys : ys[j]? = some (ys[j]'(by omega)) := List.getElem?_eq_getElem (by omega)
   refine ⟨_, ys[j]'(by omega), n', ?_, h1.trans hys, ?_, ?_⟩
   ·rw [← Go.Deep.add_add, hcell, hv]
   ·rw [hy.1] at hLi
    exact hLi.field he hj (by rw [List.getElem?_map, hys]; rfl)
   ·intro p hp
    rw [hx]
    refine List.mem_append_right _ (List.mem_flatMap.2 ⟨i, List.mem_range.2 him, ?_⟩)
    rw [hy.2]
    exact List.mem_flatMap.2 ⟨_, List.getElem_mem (by omega), hp⟩
theorem open_fields {t : TypeId} {fs : Array Field} {fuel : Nat} {cs : List Value} {x : DataW H × List MemPlace} (ht : P.underlying t = some (.struct fs)) (h : DataW.trod enc P w base spare held fuel t cs = some x) (hL : Light P t x.1) :
  cs.length = P.cellsOf t ∧ ∀ (j : Nat) (f : Field), fs[j]? = some f → ∃ (y : DataW H × List MemPlace) (n : Nat), DataW.trod enc P w base spare held n f.type ((cs.drop f.offset).take (P.cellsOf f.type)) = some y ∧ Light P f.type y.1 ∧ ∀ p ∈ y.2, p ∈ x.2 := by
 obtain ⟨ys, n', hn', hy, hlen, hyl, hf⟩ := DataW.trod_struct ht h
 refine ⟨hlen, fun j f hj => ?_⟩
 have hjl : j < fs.size := (Array.getElem?_eq_some_iff.1 hj).1
 have hys : ys[j]? = some (ys[j]'(by omega)) := List.getElem?_eq_getElem (by omega)
 refine ⟨ys[j]'(by omega), n', (hf j f hj).trans hys, ?_, ?_⟩
 ·rw [hy] at hL
  exact hL.field ht hj (by rw [List.getElem?_map, hys]; rfl)
 ·intro p hp
  rw [hy]
  exact List.mem_flatMap.2 ⟨_, List.getElem_mem (by omega), hp⟩
end
end Go.Proofs.YtkhlfggnjcbniaaGreatDoor
