/- Texts without ends of lines, without blanks at the ends: plain. No program in sight. One blank for each run of blanks: the two ways to do it: plain. Options, and which of them are selected: plain. Options, and which of them are selected: the laws: plain. What number.Parse computes is what 'parseS' says. No program in sight. Which controls are barred: the plain answer. -/
import Derived.Deep.MidRow
import Derived.Laws.BytesArg
import Derived.Laws.IdiomStrings
import Derived.Lib.Hide
import Derived.Lib.IndexBytes
import Derived.Lib.IndexMore
import Derived.Lib.ItoaMem
import Derived.Lib.ItoaNum
import Derived.Lib.Replace
import Derived.Lib.SlTrimSet
import Derived.Lib.Strings
import Derived.ProofKit
import Derived.WalkKit
import Derived.WalkSmall
import Derived.WalkSpells
import Derived.Test.YtkhlfggnjcbniaaGreatDoorRows
import Derived.Test.YtkhlfggnjcbniaaGreatDoorP0
import Derived.Test.YtkhlfggnjcbniaaGreatDoorP1
import Derived.Test.YtkhlfggnjcbniaaGreatDoorP2
import Derived.Test.YtkhlfggnjcbniaaGreatDoorP3
import Derived.Test.YtkhlfggnjcbniaaGreatDoorP5
namespace Go.Proofs.YtkhlfggnjcbniaaGreatDoor.cln
open Go.Lib Go.Proofs.YtkhlfggnjcbniaaGreatDoor.str Go.Proofs.YtkhlfggnjcbniaaGreatDoor.link
/-- a text without blanks at its ends -/
def blanks : List UInt8 := [9, 10, 12, 13, 32]
def isB (c : UInt8) : Bool := blanks.contains c
end Go.Proofs.YtkhlfggnjcbniaaGreatDoor.cln
namespace Go.Proofs.YtkhlfggnjcbniaaGreatDoor.doc
open Go.Proofs.YtkhlfggnjcbniaaGreatDoor.cln

/-- what was written, is a blank to come; the rest -/
def colS (out : List UInt8) (ahead : Bool) : List UInt8 → List UInt8
  | [] => out
  | c :: r => if isB c then colS out (decide (0 < out.length)) r else colS (out ++ (if ahead then [32] else []) ++ [c]) false r
/-- the runs of what is no blank; 'cur': the run so far -/
def wrdS (cur : List UInt8) : List UInt8 → List (List UInt8)
  | [] => if cur = [] then [] else [cur]
  | c :: r => if isB c then (if cur = [] then wrdS [] r else cur :: wrdS [] r) else wrdS (cur ++ [c]) r
def spW (ws : List (List UInt8)) : List UInt8 := ws.flatMap (fun x => 32 :: x)
def jnW : List (List UInt8) → List UInt8
  | [] => []
  | w :: r => w ++ spW r
def collapseS (s : List UInt8) : List UInt8 := colS [] false s
theorem spW_cons (x : List UInt8) (r : List (List UInt8)) : spW (x :: r) = 32 :: x ++ spW r := by unfold spW; rw [List.flatMap_cons]
theorem col_both (r : List UInt8) : (∀ out, out ≠ [] → colS out true r = out ++ spW (wrdS [] r)) ∧
    (∀ out cur, out ≠ [] → cur ≠ [] → ∃ x ws, wrdS cur r = (cur ++ x) :: ws ∧ colS out false r = out ++ x ++ spW ws) := by
  induction r with
  | nil =>
    refine ⟨fun out _ => ?_, fun out cur _ hc => ⟨[], [], ?_, ?_⟩⟩
    · rw [colS, wrdS, if_pos rfl]; simp [spW]
    · rw [wrdS, if_neg hc, List.append_nil]
    · rw [colS]; simp [spW]
  | cons c r ih =>
    obtain ⟨ia, ib⟩ := ih
    constructor
    · intro out ho
      have hl : decide (0 < out.length) = true := decide_eq_true (List.length_pos_iff.2 ho)
      rw [colS, wrdS]
      by_cases h : isB c = true
      · rw [if_pos h, if_pos h, if_pos rfl, hl, ia out ho]
      · rw [if_neg h, if_neg h, if_pos rfl]
        obtain ⟨x, ws, h1, h2⟩ := ib (out ++ [32] ++ [c]) ([] ++ [c]) (by simp) (by simp)
        rw [h1, h2, spW_cons]; simp
    · intro out cur ho hc
      have hl : decide (0 < out.length) = true := decide_eq_true (List.length_pos_iff.2 ho)
      rw [colS, wrdS]
      by_cases h : isB c = true
      · rw [if_pos h, if_pos h, if_neg hc, hl, ia out ho]
        exact ⟨[], wrdS [] r, by rw [List.append_nil], by rw [List.append_nil]⟩
      · rw [if_neg h, if_neg h]
        obtain ⟨x, ws, h1, h2⟩ := ib (out ++ (if false = true then [32] else []) ++ [c]) (cur ++ [c]) (by simp) (by simp)
        exact ⟨c :: x, ws, by rw [h1]; simp, by rw [h2]; simp⟩
theorem col_is (s : List UInt8) : collapseS s = jnW (wrdS [] s) := by
  unfold collapseS
  induction s with
  | nil => rw [colS, wrdS, if_pos rfl]; rfl
  | cons c r ih =>
    rw [colS, wrdS]
    by_cases h : isB c = true
    · rw [if_pos h, if_pos h, if_pos rfl]; exact ih
    · rw [if_neg h, if_neg h]
      obtain ⟨x, ws, h1, h2⟩ := (col_both r).2 ([] ++ (if false = true then [32] else []) ++ [c]) ([] ++ [c]) (by simp) (by simp)
      rw [h1, h2]; simp [jnW]
theorem col_le (s : List UInt8) : ∀ out a, (colS out a s).length ≤ out.length + 2 * s.length := by
  induction s with
  | nil => intro out a; rw [colS]; simp
  | cons c r ih =>
    intro out a
    rw [colS]
    split
    · have := ih out (decide (0 < out.length)); simp at this ⊢; omega
    · have := ih (out ++ (if a then [32] else []) ++ [c]) false
      cases a <;> simp at this ⊢ <;> omega
theorem collapse_le (s : List UInt8) : (collapseS s).length ≤ 2 * s.length := by
  have := col_le s [] false; simpa [collapseS] using this
/-- the runs: where each begins -/
theorem wrd_len (s : List UInt8) : ∀ cur, (wrdS cur s).length ≤ s.length + 1 := by
  induction s with
  | nil => intro cur; rw [wrdS]; split <;> simp
  | cons c r ih =>
    intro cur
    rw [wrdS]
    split
    · split
      · have := ih []; simp; omega
      · have := ih []; simp; omega
    · have := ih (cur ++ [c]); simp; omega
end Go.Proofs.YtkhlfggnjcbniaaGreatDoor.doc
namespace Go.Proofs.YtkhlfggnjcbniaaGreatDoor.doc
open Go.Proofs.YtkhlfggnjcbniaaGreatDoor.atr Go.Proofs.YtkhlfggnjcbniaaGreatDoor.link Go.Proofs.YtkhlfggnjcbniaaGreatDoor.ctl Go.Proofs.YtkhlfggnjcbniaaGreatDoor.num
def ct (cs : List Ctl) (k : Int) : Ctl := cs.getD k.toNat default
def selB (cs : List Ctl) (k : Int) : Bool := (ct cs k).selected
def hasA (nm : List UInt8) (a : List Attr) : Bool := (fval nm a).isSome
def textP (l : List Nd) (o : Int) : List UInt8 := (nd l o).text ++ (nd l o).kids.flatMap (fun k => (nd l k).text)
def valueP (l : List Nd) (o : Int) : List UInt8 := match fval nValue (nd l o).attrs with | some s => s | none => collapseS (textP l o)
def isP (l : List Nd) (k kind : Int) : Bool := decide (0 ≤ k) && decide (k < (l.length : Int)) && (kN l k == kind) && rightB l
def listP (l : List Nd) (sel : Int) : List Int := if isP l sel 23 then optsP l sel else []
def TextP (l : List Nd) (o : Int) : List UInt8 := if isP l o 32 then valueP l o else []
def docR (l : List Nd) (cs : List Ctl) : Bool := decide (l.length = cs.length) && rightB l

def firstSel (cs : List Ctl) (os : List Int) : Option Int := os.find? (selB cs)
def selValue (l : List Nd) (cs : List Ctl) (sel : Int) : List UInt8 := match firstSel cs (optsP l sel) with | some o => valueP l o | none => []
def ValueP (l : List Nd) (cs : List Ctl) (sel : Int) : List UInt8 := if docR l cs = true ∧ isP l sel 23 = true then selValue l cs sel else []
theorem kids_nodup {l : List Nd} (h : Rt l) (k : Int) (hk : inR l k) : (nd l k).kids.Nodup := by
  rw [List.nodup_iff_count]
  intro c
  by_cases hc : c ∈ (nd l k).kids
  · obtain ⟨c1, c2⟩ := h.kid k c hk hc
    have := h.once c c1 (by rw [c2]; exact hk.1)
    rw [c2] at this
    omega
  · rw [List.count_eq_zero.2 hc]; omega
theorem inner_mem {l : List Nd} (h : Rt l) (k : Int) (hk : inR l k) (o : Int) (ho : o ∈ innerP l k) : inR l o ∧ optB l o = true ∧ (o = k ∨ (nd l o).parent = k) := by
  unfold innerP at ho
  obtain ⟨h1, h2⟩ := List.mem_filter.1 ho
  split at h1
  · obtain ⟨a, b⟩ := h.kid k o hk h1
    exact ⟨a, h2, Or.inr b⟩
  · rw [List.mem_singleton] at h1
    subst h1
    exact ⟨hk, h2, Or.inl rfl⟩
theorem opts_mem {l : List Nd} (h : Rt l) (sel : Int) (hs : inR l sel) (o : Int) (ho : o ∈ optsP l sel) : inR l o ∧ optB l o = true := by
  unfold optsP at ho
  obtain ⟨k, hk, ho⟩ := List.mem_flatMap.1 ho
  obtain ⟨k1, _⟩ := h.kid sel k hs hk
  obtain ⟨a, b, _⟩ := inner_mem h k k1 o ho
  exact ⟨a, b⟩
theorem flat_nodup (a : List Int) (f : Int → List Int) (ha : a.Nodup) (hf : ∀ x ∈ a, (f x).Nodup) (hd : ∀ x ∈ a, ∀ y ∈ a, x ≠ y → ∀ z ∈ f x, z ∉ f y) : (a.flatMap f).Nodup := by
  induction a with
  | nil => exact List.nodup_nil
  | cons x r ih =>
    rw [List.flatMap_cons, List.nodup_append]
    refine ⟨hf x List.mem_cons_self, ih (List.nodup_cons.1 ha).2 (fun y hy => hf y (List.mem_cons_of_mem _ hy)) (fun y hy z hz => hd y (List.mem_cons_of_mem _ hy) z (List.mem_cons_of_mem _ hz)), ?_⟩
    intro z hz w hw e
    obtain ⟨y, hy, hw⟩ := List.mem_flatMap.1 hw
    have hxy : x ≠ y := fun e2 => (List.nodup_cons.1 ha).1 (e2 ▸ hy)
    exact hd x List.mem_cons_self y (List.mem_cons_of_mem _ hy) hxy z hz (e ▸ hw)
theorem opts_nodup {l : List Nd} (h : Rt l) (sel : Int) (hs : inR l sel) : (optsP l sel).Nodup := by
  unfold optsP
  refine flat_nodup _ _ (kids_nodup h sel hs) ?_ ?_
  · intro k hk
    obtain ⟨k1, _⟩ := h.kid sel k hs hk
    unfold innerP
    refine List.Pairwise.filter _ ?_
    split
    · exact kids_nodup h k k1
    · simp
  · intro x hx y hy hxy z hz hw
    obtain ⟨x1, x2⟩ := h.kid sel x hs hx
    obtain ⟨y1, y2⟩ := h.kid sel y hs hy
    have dx := dep_kid h x x1
    have dy := dep_kid h y y1
    rw [x2] at dx
    rw [y2] at dy
    obtain ⟨z1, _, e1⟩ := inner_mem h x x1 z hz
    obtain ⟨_, _, e2⟩ := inner_mem h y y1 z hw
    have dz := dep_kid h z z1
    rcases e1 with rfl | e1
    · rcases e2 with e2 | e2
      · exact hxy e2
      · rw [e2] at dz; omega
    · rcases e2 with rfl | e2
      · rw [e1] at dz; omega
      · exact hxy (e1.symm.trans e2)
end Go.Proofs.YtkhlfggnjcbniaaGreatDoor.doc
namespace Go.Proofs.YtkhlfggnjcbniaaGreatDoor.doc
open Go.Proofs.YtkhlfggnjcbniaaGreatDoor.atr Go.Proofs.YtkhlfggnjcbniaaGreatDoor.link Go.Proofs.YtkhlfggnjcbniaaGreatDoor.ctl Go.Proofs.YtkhlfggnjcbniaaGreatDoor.num
theorem docR_iff (l : List Nd) (cs : List Ctl) : docR l cs = true ↔ l.length = cs.length ∧ rightB l = true := by
  unfold docR; rw [Bool.and_eq_true, decide_eq_true_eq]
theorem isP_iff (l : List Nd) (k kind : Int) : isP l k kind = true ↔ inR l k ∧ kN l k = kind ∧ rightB l = true := by
  unfold isP inR; simp only [Bool.and_eq_true, decide_eq_true_eq, beq_iff_eq, and_assoc]
end Go.Proofs.YtkhlfggnjcbniaaGreatDoor.doc
namespace Go.Proofs.YtkhlfggnjcbniaaGreatDoor.num
open Go.Lib Go.Proofs.YtkhlfggnjcbniaaGreatDoor.str

/-- digits, one at least -/
def digB (l : List UInt8) : Bool := !(l == []) && allDig l

/-- is the form of a number's text wrong? -/
def badB (t : List UInt8) : Bool :=
  ((cut1 46 t).2.2 && !digB (cut1 46 t).2.1) || (!((cut1 46 t).1 == []) && !digB (cut1 46 t).1) || (((cut1 46 t).1 == []) && !(cut1 46 t).2.2)

theorem dig_split (l : List UInt8) (h : allDig l = false) : ∃ c r, l.drop (cnt l) = c :: r ∧ c ∈ l := by
  cases hd : l.drop (cnt l) with
  | nil =>
    have h1 := congrArg List.length hd
    simp at h1
    have h2 := cnt_le l
    have h3 := (cnt_all l).1 (by omega)
    rw [h] at h3; cases h3
  | cons c r => exact ⟨c, r, rfl, List.drop_subset (cnt l) l (by rw [hd]; simp)⟩

theorem cnt_app_bad (a b : List UInt8) (h : allDig a = false) : cnt (a ++ b) = cnt a := by
  induction a with
  | nil => cases h
  | cons c a ih =>
    rw [allDig_cons] at h
    rw [List.cons_append]
    unfold cnt
    cases hc : isDig c
    · simp
    · simp [hc] at h
      simp [ih h]

theorem parse_form (neg : Bool) (t : List UInt8) : parseT neg t = if badB t = true then (0, 1) else fin neg (cut1 46 t).1 (cut1 46 t).2.1 := by
  unfold badB digB
  rcases cut1_spec 46 t with ⟨h1, h2, h3⟩ | ⟨h1, h2, h3, h4⟩
  · generalize (cut1 46 t).1 = h at *
    generalize (cut1 46 t).2.1 = p at *
    rw [h1]
    cases hh : allDig h
    · obtain ⟨c, r, e1, e2⟩ := dig_split h hh
      have hc : cnt t = cnt h := by rw [h2]; exact cnt_app_bad h _ hh
      have hd : t.drop (cnt t) = c :: (r ++ 46 :: p) := by
        rw [hc, h2, List.drop_append_of_le_length (cnt_le h), e1]; rfl
      have hne : h ≠ [] := by rintro rfl; cases hh
      rw [parseT_cons neg t c _ hd, if_neg (fun (g : c = 46 ∧ _) => h3 (g.1 ▸ e2)), if_pos]
      simp [hne]
    · have hc : cnt t = h.length := by
        rw [h2, cnt_append h _ hh]
        have : cnt (46 :: p) = 0 := by unfold cnt; rw [if_neg (by decide)]
        omega
      have hd : t.drop (cnt t) = 46 :: p := by rw [hc, h2, List.drop_left]
      rw [parseT_cons neg t 46 p hd]
      have ht : t.take (cnt t) = h := by rw [hc, h2, List.take_left]
      rw [ht]
      by_cases hp : p = []
      · subst hp; simp
      · cases hpd : allDig p
        · simp [hp]
        · simp [hp]
  · rw [h1, h2, h3]
    cases hh : allDig t
    · obtain ⟨c, r, e1, e2⟩ := dig_split t hh
      have hne : t ≠ [] := by rintro rfl; cases hh
      rw [parseT_cons neg t c r e1, if_neg (fun (g : c = 46 ∧ _) => h4 (g.1 ▸ e2)), if_pos]
      simp
    · have hc := (cnt_all t).2 hh
      have hd : t.drop (cnt t) = [] := List.drop_eq_nil_of_le (by omega)
      have ht : t.take (cnt t) = t := List.take_of_length_le (by omega)
      rw [parseT_nil neg t hd, ht, hc]
      cases t with
      | nil => simp
      | cons a b => simp


theorem bad_dig (t : List UInt8) (h : badB t = false) : allDig (cut1 46 t).1 = true ∧ allDig (cut1 46 t).2.1 = true := by
  unfold badB digB at h
  rcases cut1_spec 46 t with ⟨h1, _, _⟩ | ⟨h1, _, h3, _⟩
  · rw [h1] at h
    cases hh : (cut1 46 t).1 with
    | nil => rw [hh] at h; simp at h; exact ⟨rfl, h.2⟩
    | cons a b => rw [hh] at h; simp at h; exact ⟨h.2, h.1.2⟩
  · rw [h1] at h
    rw [h3]
    cases hh : (cut1 46 t).1 with
    | nil => exact ⟨rfl, rfl⟩
    | cons a b => rw [hh] at h; simp at h; exact ⟨h, rfl⟩

/-- the six digits that are read -/
theorem six (q : List UInt8) (hq : allDig q = true) (hl : q.length ≤ 6) :
    allDig (q ++ List.replicate (6 - q.length) 48) = true ∧ val (q ++ List.replicate (6 - q.length) 48) = val q * 10 ^ (6 - q.length) ∧ val (q ++ List.replicate (6 - q.length) 48) ≤ 999999 := by
  have h1 : allDig (q ++ List.replicate (6 - q.length) 48) = true := by
    unfold allDig at *
    rw [List.all_append, hq, Bool.true_and]
    rw [List.all_eq_true]
    intro x hx
    rw [(List.mem_replicate.1 hx).2]; decide
  refine ⟨h1, ?_, ?_⟩
  · rw [val_append, val_zeros, List.length_replicate]; omega
  · have := val_lt _ h1
    rw [List.length_append, List.length_replicate, show q.length + (6 - q.length) = 6 by omega] at this
    omega

end Go.Proofs.YtkhlfggnjcbniaaGreatDoor.num
namespace Go.Proofs.YtkhlfggnjcbniaaGreatDoor.doc
open Go.Proofs.YtkhlfggnjcbniaaGreatDoor.atr Go.Proofs.YtkhlfggnjcbniaaGreatDoor.link

theorem kind_fieldset (nm : List UInt8) (a : List Attr) : kindP nm a = 29 ↔ nm = elemNames[1] := kind_elem nm a 1 (by decide)
theorem kind_legend (nm : List UInt8) (a : List Attr) : kindP nm a = 34 ↔ nm = elemNames[6] := kind_elem nm a 6 (by decide)
def fsB (l : List Nd) (f : Int) : Bool := kN l f == 29 && hasA nDisabled (nd l f).attrs
def lgB (l : List Nd) (k : Int) : Bool := kN l k == 34
/-- disabled; not to be changed; barred: of a node that is there, in a right document -/
def disR (l : List Nd) (k : Int) : Bool := (subP (kN l k) || kN l k == 29) && (hasA nDisabled (nd l k).attrs || disU l (fsB l) (lgB l) k)
def fixR (l : List Nd) (k : Int) : Bool := disR l k || (roP (kN l k) && hasA nReadonly (nd l k).attrs)
def pushR (k : Int) : Bool := decide (k = 1 ∨ k = 21 ∨ k = 22 ∨ k = 26 ∨ k = 27)
def barR (l : List Nd) (k : Int) : Bool := pushR (kN l k) || !subP (kN l k) || fixR l k || decide (0 ≤ nearP l k nDatalist)
def barP (l : List Nd) (k : Int) : Bool := !(decide (0 ≤ k) && decide (k < (l.length : Int)) && rightB l) || barR l k
/-- the program asks the kind, the reference the name -/
theorem fsB_name (l : List Nd) (f : Int) : fsB l f = (decide ((nd l f).name = elemNames[1]) && hasA nDisabled (nd l f).attrs) := by
  unfold fsB kN
  congr 1
  rw [Bool.eq_iff_iff, beq_iff_eq, decide_eq_true_eq]
  exact kind_fieldset _ _
theorem lgB_name (l : List Nd) (k : Int) : lgB l k = decide ((nd l k).name = elemNames[6]) := by
  unfold lgB kN
  rw [Bool.eq_iff_iff, beq_iff_eq, decide_eq_true_eq]
  exact kind_legend _ _
/-- the reference's search, by names -/
theorem dis_ref {l : List Nd} (h : rightB l = true) (k : Int) (hk : inR l k) : disU l (fsB l) (lgB l) k =
    (List.range l.length).any (fun i => decide ((nd l (i : Int)).name = elemNames[1]) && hasA nDisabled (nd l (i : Int)).attrs && withinP l k (i : Int) && !sparedP l (fun x => decide ((nd l x).name = elemNames[6])) k (i : Int)) := by
  rw [dis_all (right_rt l h) _ _ k hk]
  have e : lgB l = fun x => decide ((nd l x).name = elemNames[6]) := funext (lgB_name l)
  rw [e]
  congr 1
  funext i
  rw [fsB_name]
end Go.Proofs.YtkhlfggnjcbniaaGreatDoor.doc
