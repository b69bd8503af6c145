/- Ends of lines told by one byte: two replacements do what the document's ends does: plain. What a control has: plain. Controls: what they begin with, what is done to them: plain. No program in sight. -/
import Derived.Test.YtbhdoocajfkfiaaGreatDoorMf
import Derived.Test.YtbhdoocajfkfiaaGreatDoorMa
import Derived.Test.YtbhdoocajfkfiaaGreatDoorMi
namespace Go.Proofs.YtbhdoocajfkfiaaGreatDoor.cln
open Go.Lib Go.Proofs.YtbhdoocajfkfiaaGreatDoor.str Go.Proofs.YtbhdoocajfkfiaaGreatDoor.link

/-- each 13, 10 by 10 -/
def crl : List UInt8 → List UInt8
  | [] => []
  | [c] => [c]
  | c :: d :: r => if c = 13 ∧ d = 10 then 10 :: crl r else c :: crl (d :: r)
theorem crl_nil : crl [] = [] := by rw [crl]
theorem crl_one (c : UInt8) : crl [c] = [c] := by rw [crl]
theorem crl_more (c d : UInt8) (r : List UInt8) : crl (c :: d :: r) = if c = 13 ∧ d = 10 then 10 :: crl r else c :: crl (d :: r) := by rw [crl]
theorem crl_step (c : UInt8) (l : List UInt8) (h : ¬ (c = 13 ∧ l.head? = some 10)) : crl (c :: l) = c :: crl l := by
  cases l with
  | nil => rw [crl_one, crl_nil]
  | cons d r => rw [crl_more, if_neg (by simpa using h)]
theorem pre_two (c : UInt8) (l : List UInt8) : (([13, 10] : List UInt8).isPrefixOf (c :: l)) = decide (c = 13 ∧ l.head? = some 10) := by
  cases l with
  | nil => simp [List.isPrefixOf]
  | cons d r =>
    rw [Bool.eq_iff_iff]
    simp [List.isPrefixOf]
    constructor
    · rintro ⟨h1, h2⟩; exact ⟨h1.symm, h2.symm⟩
    · rintro ⟨h1, h2⟩; exact ⟨h1.symm, h2.symm⟩
theorem index_crl (s : List UInt8) : (index s [13, 10] = -1 ∧ crl s = s) ∨ ∃ i : Nat, index s [13, 10] = i ∧ i + 2 ≤ s.length ∧ crl s = s.take i ++ [10] ++ crl (s.drop (i + 2)) := by
  induction s with
  | nil => left; exact ⟨rfl, crl_nil⟩
  | cons c l ih =>
    rw [index, pre_two]
    by_cases g : c = 13 ∧ l.head? = some 10
    · right
      obtain ⟨g1, g2⟩ := g
      cases l with
      | nil => cases g2
      | cons d r =>
        have g2 : d = 10 := by simpa using g2
        refine ⟨0, by rw [decide_eq_true ⟨g1, by rw [g2]; rfl⟩]; rfl, by simp, ?_⟩
        rw [crl_more, if_pos ⟨g1, g2⟩]; rfl
    · rw [if_neg (by simpa using g), crl_step c l g]
      rcases ih with ⟨h1, h2⟩ | ⟨i, h1, h3, h2⟩
      · left
        rw [h1, h2]; exact ⟨rfl, rfl⟩
      · right
        refine ⟨i + 1, ?_, by simp; omega, ?_⟩
        · rw [h1, if_neg (by simp)]; rfl
        · rw [h2]; rfl
theorem replace_crl : ∀ (fuel : Nat) (s : List UInt8), s.length < fuel → replaceK [13, 10] [10] (countFrom [13, 10] fuel s) s = crl s := by
  intro fuel
  induction fuel with
  | zero => intro s h; omega
  | succ n ih =>
    intro s h
    rw [countFrom]
    rcases index_crl s with ⟨h1, h2⟩ | ⟨i, h1, h3, h2⟩
    · rw [h1, if_pos (show ((-1 : Int) == -1) = true from rfl), h2]; rfl
    · rw [h1, if_neg (by simp), Nat.add_comm 1, replaceK_hit _ _ _ _ i h1, h2]
      have e : ((i : Int)).toNat = i := rfl
      rw [e]
      have e2 : ([13, 10] : List UInt8).length = 2 := rfl
      rw [e2, ih (s.drop (i + 2)) (by rw [List.length_drop]; omega)]
theorem replaceAll_crl (s : List UInt8) : replaceAll s [13, 10] [10] = crl s := by
  unfold replaceAll replace
  rw [if_neg (by decide)]
  have e : replaceNum s [13, 10] (-1) = count s [13, 10] := by unfold replaceNum; rw [if_pos (Or.inl (by decide))]
  rw [e]
  exact replace_crl (s.length + 1) s (Nat.lt_succ_self _)
theorem crl_le : ∀ (n : Nat) (s : List UInt8), s.length ≤ n → (crl s).length ≤ s.length := by
  intro n
  induction n with
  | zero => intro s h; have : s = [] := List.length_eq_zero_iff.1 (by omega); rw [this, crl_nil]; exact Nat.le_refl _
  | succ n ih =>
    intro s h
    match s, h with
    | [], _ => rw [crl_nil]; exact Nat.le_refl _
    | [c], _ => rw [crl_one]; exact Nat.le_refl _
    | c :: d :: r, h =>
      rw [crl_more]
      simp at h
      split
      · have := ih r (by omega); simp; omega
      · have := ih (d :: r) (by simp; omega); simp at this ⊢; omega
theorem ends_crl : ∀ (n : Nat) (s : List UInt8), s.length ≤ n → (crl s).flatMap (fun b => if b = 13 then [10] else [b]) = endsS [10] s := by
  intro n
  induction n with
  | zero => intro s h; have : s = [] := List.length_eq_zero_iff.1 (by omega); rw [this, crl_nil, ends_nil]; rfl
  | succ n ih =>
    intro s h
    match s, h with
    | [], _ => rw [crl_nil, ends_nil]; rfl
    | [c], _ =>
      rw [crl_one, ends_single, List.flatMap_cons, List.flatMap_nil, List.append_nil]
      by_cases g : c = 13
      · rw [if_pos g, if_pos (Or.inl g)]
      · rw [if_neg g]
        by_cases g2 : c = 10
        · rw [if_pos (Or.inr g2), g2]
        · rw [if_neg (by simp [g, g2])]
    | c :: d :: r, h =>
      simp at h
      rw [crl_more, ends_more]
      by_cases g : c = 13 ∧ d = 10
      · rw [if_pos g, if_pos g, List.flatMap_cons, if_neg (by decide), ih r (by omega)]
      · rw [if_neg g, if_neg g, List.flatMap_cons, ih (d :: r) (by simp; omega)]
        by_cases g1 : c = 13
        · rw [if_pos g1, if_pos (Or.inl g1)]
        · rw [if_neg g1]
          by_cases g2 : c = 10
          · rw [if_pos (Or.inr g2), g2]
          · rw [if_neg (by simp [g1, g2])]; rfl
def linesS (s : List UInt8) : List UInt8 := endsS [10] s
theorem lines_is (s : List UInt8) : replaceAll (crl s) [13] [10] = linesS s := by
  rw [replace_one 13 [10] (crl s) (by decide)]
  exact ends_crl s.length s (Nat.le_refl _)
theorem ends_le : ∀ (n : Nat) (s : List UInt8), s.length ≤ n → (endsS [10] s).length ≤ s.length := by
  intro n
  induction n with
  | zero => intro s h; have : s = [] := List.length_eq_zero_iff.1 (by omega); rw [this, ends_nil]; exact Nat.le_refl _
  | succ n ih =>
    intro s h
    match s, h with
    | [], _ => rw [ends_nil]; exact Nat.le_refl _
    | [c], _ =>
      rw [ends_single]
      split <;> simp
    | c :: d :: r, h =>
      simp at h
      rw [ends_more]
      split
      · have := ih r (by omega); simp; omega
      · have := ih (d :: r) (by simp; omega)
        split
        · simp at this ⊢; omega
        · simp at this ⊢; omega
theorem lines_le (s : List UInt8) : (linesS s).length ≤ s.length := ends_le s.length s (Nat.le_refl _)
end Go.Proofs.YtbhdoocajfkfiaaGreatDoor.cln

namespace Go.Proofs.YtbhdoocajfkfiaaGreatDoor.ctl

structure Ent where
  name : List UInt8
  value : List UInt8
  file : Bool
  fname : List UInt8
  typ : List UInt8
instance : Inhabited Ent := ⟨⟨[], [], false, [], []⟩⟩
structure Ctl where
  value : List UInt8
  dirty : Bool
  typed : Bool
  checked : Bool
  dchecked : Bool
  mixed : Bool
  selected : Bool
  dselected : Bool
  custom : List UInt8
  files : List Ent
instance : Inhabited Ctl := ⟨⟨[], false, false, false, false, false, false, false, [], []⟩⟩
end Go.Proofs.YtbhdoocajfkfiaaGreatDoor.ctl

namespace Go.Proofs.YtbhdoocajfkfiaaGreatDoor.ctl
open Go.Lib Go.Proofs.YtbhdoocajfkfiaaGreatDoor.num Go.Proofs.YtbhdoocajfkfiaaGreatDoor.mom Go.Proofs.YtbhdoocajfkfiaaGreatDoor.atr Go.Proofs.YtbhdoocajfkfiaaGreatDoor.link Go.Proofs.YtbhdoocajfkfiaaGreatDoor.stp Go.Proofs.YtbhdoocajfkfiaaGreatDoor.cln

def modeP (kind : Int) : Int :=
  if (2 ≤ kind ∧ kind ≤ 15) ∨ kind = 24 ∨ kind = 28 then 1
  else if kind = 16 ∨ kind = 17 then 3
  else if kind = 18 then 4
  else if 1 ≤ kind ∧ kind ≤ 22 then 2 else 0
/-- the classes of kinds -/
theorem kinds_c (kind : Int) : kind = 24 ∨ kind = 28 ∨ (2 ≤ kind ∧ kind ≤ 15) ∨ (kind = 16 ∨ kind = 17) ∨ kind = 18 ∨ (kind = 1 ∨ kind = 19 ∨ kind = 20 ∨ kind = 21 ∨ kind = 22) ∨ (kind = 25 ∨ kind = 26 ∨ kind = 27) ∨ kind = 32 ∨ (¬ (1 ≤ kind ∧ kind ≤ 22) ∧ kind ≠ 24 ∧ kind ≠ 25 ∧ kind ≠ 26 ∧ kind ≠ 27 ∧ kind ≠ 28 ∧ kind ≠ 32) := by omega
theorem mode_1 (kind : Int) (h : (2 ≤ kind ∧ kind ≤ 15) ∨ kind = 24 ∨ kind = 28) : modeP kind = 1 := by unfold modeP; rw [if_pos h]
theorem mode_3 (kind : Int) (h : kind = 16 ∨ kind = 17) : modeP kind = 3 := by unfold modeP; rw [if_neg (by omega), if_pos h]
theorem mode_4 : modeP 18 = 4 := by decide
theorem mode_2 (kind : Int) (h : kind = 1 ∨ kind = 19 ∨ kind = 20 ∨ kind = 21 ∨ kind = 22) : modeP kind = 2 := by unfold modeP; rw [if_neg (by omega), if_neg (by omega), if_neg (by omega), if_pos (by omega)]
theorem mode_0 (kind : Int) (h : ¬ (1 ≤ kind ∧ kind ≤ 22) ∧ kind ≠ 24 ∧ kind ≠ 28) : modeP kind = 0 := by unfold modeP; rw [if_neg (by omega), if_neg (by omega), if_neg (by omega), if_neg (by omega)]

def cleanedP (kind : Int) (l : List Attr) (s : List UInt8) : List UInt8 := if kind = 24 then linesS s else cleanV kind l s
theorem cleaned_24 (l : List Attr) (s : List UInt8) : cleanedP 24 l s = linesS s := by unfold cleanedP; rw [if_pos rfl]
theorem cleaned_no (kind : Int) (h : kind ≠ 24) (l : List Attr) (s : List UInt8) : cleanedP kind l s = cleanV kind l s := by unfold cleanedP; rw [if_neg h]

/-- what a control begins with: its value, checked, selected -/
def startV (kind : Int) (l : List Attr) (text : List UInt8) : List UInt8 := if kind = 28 then text else if kind = 24 then linesS text else if modeP kind = 1 then cleanV kind l (attrS nValue l) else []
def startC (kind : Int) (l : List Attr) : Bool := if modeP kind = 3 then attrB nChecked l else false
def startS (kind : Int) (l : List Attr) : Bool := if kind = 32 then attrB nSelected l else false
/-- a control's value -/
def onT : List UInt8 := [111, 110]
def fakeT : List UInt8 := [67, 58, 92, 102, 97, 107, 101, 112, 97, 116, 104, 92]
def valueP (kind : Int) (v : List UInt8) (fs : List Ent) (l : List Attr) : List UInt8 :=
  if modeP kind = 1 then v
  else if modeP kind = 3 then (if attrB nValue l then attrS nValue l else onT)
  else if modeP kind = 2 ∨ kind = 25 ∨ kind = 26 ∨ kind = 27 then attrS nValue l
  else if modeP kind = 4 then (match fs with | [] => [] | f :: _ => fakeT ++ f.fname)
  else []
/-- a changed attribute: the value; checked; selected -/
def inputP (kind : Int) : Bool := modeP kind == 1 && !(kind == 24) && !(kind == 28)
def movesP (nm : List UInt8) : Bool := nm = nValue ∨ nm = nMultiple ∨ nm = nMin ∨ nm = nMax ∨ nm = nStep
def changeV (kind : Int) (v : List UInt8) (dirty : Bool) (l : List Attr) (nm : List UInt8) : List UInt8 :=
  if 2 ≤ kind ∧ kind ≤ 15 then (if nm = nValue ∧ dirty = false then cleanV kind l (attrS nm l) else if movesP nm = true then cleanV kind l v else v) else v
def changeC (kind : Int) (c dc : Bool) (l : List Attr) (nm : List UInt8) : Bool := if (kind = 16 ∨ kind = 17) ∧ nm = nChecked ∧ dc = false then attrB nm l else c
def changeS (kind : Int) (s ds : Bool) (l : List Attr) (nm : List UInt8) : Bool := if kind = 32 ∧ nm = nSelected ∧ ds = false then attrB nm l else s
end Go.Proofs.YtbhdoocajfkfiaaGreatDoor.ctl
