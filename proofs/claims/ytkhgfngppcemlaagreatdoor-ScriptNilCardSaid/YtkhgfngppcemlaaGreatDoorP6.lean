/- Attributes: the first of a name: plain. No program in sight. Documents: nodes; which documents are right: plain. No program in sight. What a control has: plain. -/
import Derived.Test.YtkhgfngppcemlaaGreatDoorRows
namespace Go.Proofs.YtkhgfngppcemlaaGreatDoor.atr

abbrev Attr := List UInt8 × List UInt8
/-- the first of a name: its place (or how many there are), its value -/
def fidx (nm : List UInt8) : List Attr → Nat
  | [] => 0
  | a :: r => if a.1 = nm then 0 else fidx nm r + 1
def fval (nm : List UInt8) : List Attr → Option (List UInt8)
  | [] => none
  | a :: r => if a.1 = nm then some a.2 else fval nm r
def fint (nm : List UInt8) (l : List Attr) : Int := if fidx nm l < l.length then (fidx nm l : Int) else -1

theorem find_ways (nm : List UInt8) (l : List Attr) : (∃ (k : Nat) (h : k < l.length), fidx nm l = k ∧ l[k].1 = nm ∧ (∀ j (hj : j < k), l[j].1 ≠ nm) ∧ fval nm l = some l[k].2) ∨ (fidx nm l = l.length ∧ (∀ j (hj : j < l.length), l[j].1 ≠ nm) ∧ fval nm l = none) := by
  induction l with
  | nil => right; exact ⟨rfl, fun j hj => absurd hj (Nat.not_lt_zero _), rfl⟩
  | cons a r ih =>
    by_cases h : a.1 = nm
    · left
      exact ⟨0, Nat.succ_pos _, by rw [fidx, if_pos h], h, fun j hj => absurd hj (Nat.not_lt_zero _), by rw [fval, if_pos h]; rfl⟩
    · rcases ih with ⟨k, hk, h1, h2, h3, h4⟩ | ⟨h1, h2, h3⟩
      · left
        refine ⟨k + 1, Nat.succ_lt_succ hk, by rw [fidx, if_neg h, h1], h2, ?_, by rw [fval, if_neg h, h4]; rfl⟩
        intro j hj
        cases j with
        | zero => exact h
        | succ j => exact h3 j (by omega)
      · right
        refine ⟨by rw [fidx, if_neg h, h1]; rfl, ?_, by rw [fval, if_neg h, h3]⟩
        intro j hj
        cases j with
        | zero => exact h
        | succ j => exact h2 j (by simpa using hj)

def nType : List UInt8 := [116, 121, 112, 101]
end Go.Proofs.YtkhgfngppcemlaaGreatDoor.atr
namespace Go.Proofs.YtkhgfngppcemlaaGreatDoor.doc
open Go.Proofs.YtkhgfngppcemlaaGreatDoor.atr

structure Nd where
  name : List UInt8
  text : List UInt8
  attrs : List Attr
  parent : Int
  kids : List Int
instance : Inhabited Nd := ⟨⟨[], [], [], -1, []⟩⟩
def nd (l : List Nd) (k : Int) : Nd := l.getD k.toNat default
theorem nd_cast (l : List Nd) (k : Nat) (h : k < l.length) : nd l k = l[k] := by
  show l.getD (k : Int).toNat default = _
  rw [Int.toNat_natCast, List.getD_eq_getElem?_getD, List.getElem?_eq_getElem h]; rfl

def smallC (c : UInt8) : Bool := decide (97 ≤ c.toNat) && decide (c.toNat ≤ 122)
def digitC (c : UInt8) : Bool := decide (48 ≤ c.toNat) && decide (c.toNat ≤ 57)
def okC (c : UInt8) : Bool := smallC c || digitC c || c == 45
def namedP : List UInt8 → Bool
  | [] => false
  | c :: r => smallC c && r.all okC && decide (r.length + 1 ≤ 20)
def atA (a : List Attr) (i : Nat) : Attr := a.getD i ([], [])
def attrB1 (a : List Attr) (i : Nat) : Bool := namedP (atA a i).1 && decide ((atA a i).2.length ≤ 4000) && fidx (atA a i).1 a == i
def attrsOk (a : List Attr) : Bool := (List.range a.length).all (attrB1 a)
def aloneP (n : Nd) : Bool :=
  if n.name = [] then n.attrs.isEmpty && n.kids.isEmpty && decide (n.text.length ≤ 4000)
  else namedP n.name && n.text.isEmpty && decide (n.attrs.length ≤ 40) && attrsOk n.attrs
def kidB (l : List Nd) (i c : Int) : Bool := decide (0 ≤ c) && decide (c < (l.length : Int)) && decide ((nd l c).parent = i)
def kidsB (l : List Nd) (i : Int) : Bool := (nd l i).kids.all (kidB l i)
def onceB (l : List Nd) (i : Int) : Bool := decide ((nd l i).parent < 0) || (nd l (nd l i).parent).kids.count i == 1
def rangeB (l : List Nd) (i : Int) : Bool := decide (-1 ≤ (nd l i).parent) && decide ((nd l i).parent < (l.length : Int))
def nodeB (l : List Nd) (i : Int) : Bool := aloneP (nd l i) && rangeB l i && onceB l i && kidsB l i
def climb (l : List Nd) : Nat → Int → Int
  | 0, k => k
  | n + 1, k => if k < 0 then k else climb l n (nd l k).parent
def headB (l : List Nd) : Bool := decide (1 ≤ l.length) && decide (l.length ≤ 400) && !(nd l 0).name.isEmpty && decide ((nd l 0).parent = -1)
def nodesB (l : List Nd) : Bool := (List.range l.length).all (fun i => nodeB l i)
def climbsB (l : List Nd) : Bool := (List.range l.length).all (fun i => decide (climb l (l.length + 1) i < 0))
def rightB (l : List Nd) : Bool := headB l && nodesB l && climbsB l

/-- lists without repetition -/
theorem nodup_len : ∀ (a b : List Int), a.Nodup → (∀ x ∈ a, x ∈ b) → a.length ≤ b.length := by
  intro a
  induction a with
  | nil => intro b _ _; exact Nat.zero_le _
  | cons x r ih =>
    intro b hn hs
    have hx : x ∈ b := hs x List.mem_cons_self
    have h1 := ih (b.erase x) (List.nodup_cons.1 hn).2 (fun y hy => by
      have hne : y ≠ x := fun e => (List.nodup_cons.1 hn).1 (e ▸ hy)
      exact (List.mem_erase_of_ne hne).2 (hs y (List.mem_cons_of_mem _ hy)))
    rw [List.length_erase_of_mem hx] at h1
    have : 0 < b.length := List.length_pos_of_mem hx
    simp; omega
theorem nodup_onto (a b : List Int) (ha : a.Nodup) (hs : ∀ x ∈ a, x ∈ b) (hl : b.length ≤ a.length) : ∀ y ∈ b, y ∈ a := by
  intro y hy
  by_cases h : y ∈ a
  · exact h
  · exfalso
    have := nodup_len (y :: a) b (List.nodup_cons.2 ⟨h, ha⟩) (fun x hx => by
      rcases List.mem_cons.1 hx with rfl | hx
      · exact hy
      · exact hs x hx)
    simp at this; omega

theorem sub_flat {α : Type} (a : List α) (f : α → List Int) (x : α) (h : x ∈ a) : (f x).Sublist (a.flatMap f) := by
  induction a with
  | nil => cases h
  | cons y r ih =>
    rw [List.flatMap_cons]
    rcases List.mem_cons.1 h with rfl | h
    · exact List.sublist_append_left _ _
    · exact (ih h).trans (List.sublist_append_right _ _)

/-- the children of the first nodes; how many of the first have a parent -/
def kidsTo (l : List Nd) (i : Nat) : List Int := (List.range i).flatMap (fun j : Nat => (nd l j).kids)
def parTo (l : List Nd) (i : Nat) : List Int := ((List.range i).filter (fun j : Nat => decide (0 ≤ (nd l j).parent))).map (fun j : Nat => (j : Int))
theorem kidsTo_succ (l : List Nd) (i : Nat) : kidsTo l (i + 1) = kidsTo l i ++ (nd l i).kids := by
  unfold kidsTo; rw [List.range_succ, List.flatMap_append]; simp
theorem parTo_succ (l : List Nd) (i : Nat) : (parTo l (i + 1)).length = (parTo l i).length + if 0 ≤ (nd l i).parent then 1 else 0 := by
  unfold parTo
  rw [List.range_succ, List.filter_append, List.map_append, List.length_append]
  by_cases h : 0 ≤ (nd l i).parent
  · rw [if_pos h, List.filter_cons, if_pos (by simpa using h)]; rfl
  · rw [if_neg h, List.filter_cons, if_neg (by simpa using h)]; rfl
theorem mem_kidsTo (l : List Nd) (i : Nat) (c : Int) : c ∈ kidsTo l i ↔ ∃ j : Nat, j < i ∧ c ∈ (nd l j).kids := by
  unfold kidsTo; rw [List.mem_flatMap]
  constructor
  · rintro ⟨j, hj, h⟩; exact ⟨j, List.mem_range.1 hj, h⟩
  · rintro ⟨j, hj, h⟩; exact ⟨j, List.mem_range.2 hj, h⟩
theorem mem_parTo (l : List Nd) (i : Nat) (c : Int) : c ∈ parTo l i ↔ ∃ j : Nat, j < i ∧ c = j ∧ 0 ≤ (nd l j).parent := by
  unfold parTo; rw [List.mem_map]
  constructor
  · rintro ⟨j, hj, rfl⟩
    have := List.mem_filter.1 hj
    exact ⟨j, List.mem_range.1 this.1, rfl, by simpa using this.2⟩
  · rintro ⟨j, hj, rfl, h⟩; exact ⟨j, List.mem_filter.2 ⟨List.mem_range.2 hj, by simpa using h⟩, rfl⟩
theorem parTo_nodup (l : List Nd) (i : Nat) : (parTo l i).Nodup := by
  unfold parTo
  rw [List.Nodup, List.pairwise_map]
  have h : ((List.range i).filter (fun j : Nat => decide (0 ≤ (nd l j).parent))).Nodup := List.Pairwise.filter _ List.nodup_range
  exact h.imp (fun {a b} g e => g (by exact_mod_cast e))

/-- what is so of the children of the first nodes -/
def KidsFine (l : List Nd) (i : Nat) : Prop := ∀ j : Nat, j < i → kidsB l j = true
theorem kid_of (l : List Nd) (i c : Int) (h : kidB l i c = true) : 0 ≤ c ∧ c < (l.length : Int) ∧ (nd l c).parent = i := by
  unfold kidB at h
  rw [Bool.and_eq_true, Bool.and_eq_true, decide_eq_true_eq, decide_eq_true_eq, decide_eq_true_eq] at h
  exact ⟨h.1.1, h.1.2, h.2⟩
theorem kidsB_mem (l : List Nd) (i c : Int) (h : kidsB l i = true) (hc : c ∈ (nd l i).kids) : 0 ≤ c ∧ c < (l.length : Int) ∧ (nd l c).parent = i :=
  kid_of l i c (List.all_eq_true.1 h c hc)

/-- all are met just once: as told by the count -/
theorem met_all (l : List Nd) (hk : KidsFine l l.length) (hn : (kidsTo l l.length).Nodup) (hr : ∀ i : Nat, i < l.length → rangeB l i = true) :
    (parTo l l.length).length = (kidsTo l l.length).length ↔ ∀ i : Nat, i < l.length → onceB l i = true := by
  have hsub : ∀ x ∈ kidsTo l l.length, x ∈ parTo l l.length := by
    intro x hx
    obtain ⟨j, hj, hx⟩ := (mem_kidsTo l _ x).1 hx
    obtain ⟨h1, h2, h3⟩ := kidsB_mem l j x (hk j hj) hx
    refine (mem_parTo l _ x).2 ⟨x.toNat, by omega, by omega, ?_⟩
    rw [show ((x.toNat : Nat) : Int) = x from by omega, h3]; omega
  have hcnt : ∀ (j : Nat) (x : Int), j < l.length → x ∈ (nd l j).kids → (nd l j).kids.count x = 1 := by
    intro j x hj hx
    have hs : (nd l j).kids.Nodup := by
      have : (nd l j).kids.Sublist (kidsTo l l.length) := by
        unfold kidsTo
        exact sub_flat (List.range l.length) (fun j : Nat => (nd l j).kids) j (List.mem_range.2 hj)
      exact hn.sublist this
    exact Nat.le_antisymm (List.nodup_iff_count.1 hs x) (List.count_pos_iff.2 hx)
  constructor
  · intro he i hi
    unfold onceB
    by_cases hp : (nd l i).parent < 0
    · rw [decide_eq_true hp]; rfl
    · have hin := nodup_onto _ _ hn hsub (by omega) (i : Int) ((mem_parTo l _ _).2 ⟨i, hi, rfl, by omega⟩)
      obtain ⟨j, hj, hx⟩ := (mem_kidsTo l _ _).1 hin
      obtain ⟨_, _, h3⟩ := kidsB_mem l j i (hk j hj) hx
      rw [h3, hcnt j i hj hx]; simp
  · intro h
    refine Nat.le_antisymm ?_ (nodup_len _ _ hn hsub)
    refine nodup_len _ _ (parTo_nodup l _) ?_
    intro x hx
    obtain ⟨j, hj, rfl, hp⟩ := (mem_parTo l _ _).1 hx
    have h1 := h j hj
    have h2 := hr j hj
    unfold onceB at h1
    unfold rangeB at h2
    rw [decide_eq_false (by omega)] at h1
    have h1 : (nd l (nd l j).parent).kids.count (j : Int) = 1 := by simpa using h1
    have h2 : (nd l j).parent < (l.length : Int) := by
      rw [Bool.and_eq_true, decide_eq_true_eq, decide_eq_true_eq] at h2; exact h2.2
    refine (mem_kidsTo l _ _).2 ⟨(nd l j).parent.toNat, by omega, ?_⟩
    rw [show (((nd l j).parent.toNat : Nat) : Int) = (nd l j).parent from by omega]
    exact List.count_pos_iff.1 (by omega)
/-- a child that was met is none: some node isn't as it should be -/
theorem met_twice (l : List Nd) (i m : Nat) (hi : i < l.length) (hm : m < (nd l i).kids.length) (hk : KidsFine l i) (c : Int) (hc : (nd l i).kids[m]? = some c)
    (hin : c ∈ kidsTo l i ∨ c ∈ (nd l i).kids.take m) : nodesB l = false := by
  rw [← Bool.not_eq_true]
  intro hall
  have hnode : ∀ j : Nat, j < l.length → nodeB l j = true := fun j hj => List.all_eq_true.1 hall j (List.mem_range.2 hj)
  have hki := hnode i hi
  unfold nodeB at hki
  have hki := (Bool.and_eq_true _ _ ▸ hki).2
  have hcm : c ∈ (nd l i).kids := List.mem_of_getElem? hc
  obtain ⟨h1, h2, h3⟩ := kidsB_mem l i c hki hcm
  rcases hin with hin | hin
  · obtain ⟨j, hj, hx⟩ := (mem_kidsTo l _ _).1 hin
    obtain ⟨_, _, h4⟩ := kidsB_mem l j c (hk j hj) hx
    omega
  · have hkc := hnode c.toNat (by omega)
    rw [show ((c.toNat : Nat) : Int) = c from by omega] at hkc
    unfold nodeB at hkc
    have hoc : onceB l c = true := (Bool.and_eq_true _ _ ▸ (Bool.and_eq_true _ _ ▸ hkc).1).2
    unfold onceB at hoc
    rw [h3, decide_eq_false (by omega)] at hoc
    have hoc : (nd l i).kids.count c = 1 := by simpa using hoc
    have e : (nd l i).kids = (nd l i).kids.take m ++ c :: (nd l i).kids.drop (m + 1) := by
      have e1 := (List.take_append_drop m (nd l i).kids).symm
      rw [List.drop_eq_getElem_cons hm] at e1
      have e2 : (nd l i).kids[m] = c := by rw [List.getElem?_eq_getElem hm] at hc; exact Option.some.inj hc
      rw [e2] at e1
      exact e1
    rw [e, List.count_append, List.count_cons_self] at hoc
    have := List.count_pos_iff.2 hin
    omega
end Go.Proofs.YtkhgfngppcemlaaGreatDoor.doc
namespace Go.Proofs.YtkhgfngppcemlaaGreatDoor.ctl

structure Ent where
  name : List UInt8
  value : List UInt8
  file : Bool
  fname : List UInt8
  typ : List UInt8
instance : Inhabited Ent := ⟨⟨[], [], false, [], []⟩⟩
structure Ctl where
  value : List UInt8
  dirty : Bool
  typed : Bool
  checked : Bool
  dchecked : Bool
  mixed : Bool
  selected : Bool
  dselected : Bool
  custom : List UInt8
  files : List Ent
instance : Inhabited Ctl := ⟨⟨[], false, false, false, false, false, false, false, [], []⟩⟩
end Go.Proofs.YtkhgfngppcemlaaGreatDoor.ctl
