/- Texts without ends of lines, without blanks at the ends: plain. No program in sight. The contracts of text.NoBreaks, Strip, mail.Trim. A range's value put between its bounds and on its steps: plain. No program in sight. The contracts of clean.Default, within, onto, ranged. The contracts of clean.ranged and of the reference's Default, Range. -/
import Derived.Test.YtbhdoocajfkfiaaGreatDoorMa
import Derived.Lib.Replace
import Derived.Lib.SlTrimSet
import Derived.Lib.IndexBytes
import Derived.Test.YtbhdoocajfkfiaaGreatDoorShelf
import Derived.Shelf.Strings.SlTrimAscii
import Derived.Test.YtbhdoocajfkfiaaGreatDoorNj
import Derived.Test.YtbhdoocajfkfiaaGreatDoorMd
namespace Go.Proofs.YtbhdoocajfkfiaaGreatDoor.cln
open Go.Lib Go.Proofs.YtbhdoocajfkfiaaGreatDoor.str Go.Proofs.YtbhdoocajfkfiaaGreatDoor.link

theorem index_split (c : UInt8) (s : List UInt8) : (index s [c] = -1 ∧ c ∉ s) ∨ ∃ (i : Nat) (p r : List UInt8), index s [c] = i ∧ s = p ++ c :: r ∧ p.length = i ∧ c ∉ p := by
  rw [index_one]
  induction s with
  | nil => left; exact ⟨rfl, by simp⟩
  | cons b r ih =>
    by_cases h : b = c
    · right
      exact ⟨0, [], r, by rw [indexByte, if_pos (by simpa using h)]; rfl, by rw [h]; rfl, rfl, by simp⟩
    · rcases ih with ⟨h1, h2⟩ | ⟨i, p, q, h1, h2, h3, h4⟩
      · left
        refine ⟨?_, by simp [h2, Ne.symm h]⟩
        rw [indexByte, if_neg (by simpa using h), if_pos (by rw [h1]; rfl)]
      · right
        refine ⟨i + 1, b :: p, q, ?_, by rw [h2]; rfl, by simp [h3], by simp [h4, Ne.symm h]⟩
        rw [indexByte, if_neg (by simpa using h), if_neg (by rw [h1]; simp), h1]; rfl
theorem replaceK_one (c : UInt8) (new : List UInt8) : ∀ (k : Nat) (s : List UInt8), s.count c ≤ k → replaceK [c] new k s = s.flatMap (fun b => if b = c then new else [b]) := by
  intro k
  induction k with
  | zero =>
    intro s h
    have hc : c ∉ s := List.count_eq_zero.1 (by omega)
    show s = _
    clear h
    induction s with
    | nil => rfl
    | cons b r ih =>
      rw [List.flatMap_cons, if_neg (by intro e; exact hc (by simp [e])), ← ih (fun e => hc (by simp [e]))]
      rfl
  | succ k ih =>
    intro s h
    rcases index_split c s with ⟨h1, h2⟩ | ⟨i, p, r, h1, rfl, h3, h4⟩
    · have := ih s (by rw [List.count_eq_zero.2 h2]; omega)
      rw [replaceK, if_pos (by rw [h1]; rfl)]
      clear this ih h h1
      induction s with
      | nil => rfl
      | cons b r ih =>
        rw [List.flatMap_cons, if_neg (by intro e; exact h2 (by simp [e])), ← ih (fun e => h2 (by simp [e]))]
        rfl
    · rw [replaceK_hit _ _ _ _ i h1, ← h3]
      have e1 : (p ++ c :: r).take p.length = p := by simp
      have e2 : (p ++ c :: r).drop (p.length + [c].length) = r := by simp
      rw [e1, e2, ih r (by rw [List.count_append, List.count_cons_self] at h; omega)]
      rw [List.flatMap_append, List.flatMap_cons, if_pos rfl]
      have e3 : p.flatMap (fun b => if b = c then new else [b]) = p := by
        clear h1 h3 h e1 e2
        induction p with
        | nil => rfl
        | cons b q ih2 =>
          rw [List.flatMap_cons, if_neg (by intro e; exact h4 (by simp [e])), ih2 (fun e => h4 (by simp [e]))]
          rfl
      rw [e3, List.append_assoc]
theorem replace_one (c : UInt8) (new s : List UInt8) (h : new ≠ [c]) : replaceAll s [c] new = s.flatMap (fun b => if b = c then new else [b]) := by
  unfold replaceAll replace
  rw [if_neg (by simpa using Ne.symm h)]
  have e : replaceNum s [c] (-1) = s.count c := by unfold replaceNum; rw [if_pos (Or.inl (by decide)), count_one]
  rw [e]
  exact replaceK_one c new _ s (Nat.le_refl _)

/-- a text without ends of lines -/
def noBr (s : List UInt8) : List UInt8 := s.filter (fun c => c != 13 && c != 10)
theorem drop_one (c : UInt8) (s : List UInt8) : replaceAll s [c] [] = s.filter (fun b => b != c) := by
  rw [replace_one c [] s (by simp)]
  induction s with
  | nil => rfl
  | cons b r ih =>
    rw [List.flatMap_cons, ih, List.filter_cons]
    by_cases h : b = c
    · rw [if_pos h, if_neg (by simp [h])]; rfl
    · rw [if_neg h, if_pos (by simp [h])]; rfl
theorem noBr_is (s : List UInt8) : replaceAll (replaceAll s [13] []) [10] [] = noBr s := by
  rw [drop_one, drop_one, List.filter_filter]
  unfold noBr
  congr 1
  funext c
  exact Bool.and_comm _ _
theorem noBr_again (s : List UInt8) : noBr (noBr s) = noBr s := by
  unfold noBr
  rw [List.filter_filter]
  congr 1
  funext c
  exact Bool.and_self _
theorem noBr_le (s : List UInt8) : (noBr s).length ≤ s.length := List.length_filter_le _ _

/-- a text without blanks at its ends -/
def blanks : List UInt8 := [9, 10, 12, 13, 32]
def isB (c : UInt8) : Bool := blanks.contains c
def stripB (s : List UInt8) : List UInt8 := trimS s blanks
theorem dropW_again (p : UInt8 → Bool) (l : List UInt8) : (l.dropWhile p).dropWhile p = l.dropWhile p := by
  induction l with
  | nil => rfl
  | cons c r ih =>
    rw [List.dropWhile_cons]
    cases h : p c
    · rw [if_neg (by simp), List.dropWhile_cons, h]; rfl
    · rw [if_pos rfl]; exact ih
theorem dropW_form (p : UInt8 → Bool) (l : List UInt8) : l.dropWhile p = [] ∨ ∃ c r, l.dropWhile p = c :: r ∧ p c = false := by
  induction l with
  | nil => left; rfl
  | cons c r ih =>
    rw [List.dropWhile_cons]
    cases h : p c
    · right; exact ⟨c, r, by rw [if_neg (by simp)], h⟩
    · rw [if_pos rfl]; exact ih
theorem dropW_snoc (p : UInt8 → Bool) (q : List UInt8) (c : UInt8) (h : p c = false) : ∃ q', (q ++ [c]).dropWhile p = q' ++ [c] := by
  induction q with
  | nil => exact ⟨[], by rw [List.nil_append, List.dropWhile_cons, h]; rfl⟩
  | cons b r ih =>
    rw [List.cons_append, List.dropWhile_cons]
    cases hb : p b
    · exact ⟨b :: r, by rw [if_neg (by simp)]; rfl⟩
    · rw [if_pos rfl]; exact ih
theorem stripB_again (s : List UInt8) : stripB (stripB s) = stripB s := by
  unfold stripB trimS trimLeftS trimRightS
  rcases dropW_form (fun c => blanks.contains c) s.reverse with h | ⟨c, r, h, hc⟩
  · rw [h]; rfl
  · rw [h, List.reverse_cons]
    obtain ⟨q, hq⟩ := dropW_snoc (fun c => blanks.contains c) r.reverse c hc
    rw [hq, List.reverse_append]
    have e : ([c].reverse ++ q.reverse).dropWhile (fun c => blanks.contains c) = [c].reverse ++ q.reverse := by
      show (c :: q.reverse).dropWhile _ = c :: q.reverse
      rw [List.dropWhile_cons, hc]; rfl
    rw [e, List.reverse_append, List.reverse_reverse, List.reverse_reverse, ← hq, dropW_again]
theorem dropW_mem (p : UInt8 → Bool) (l : List UInt8) (c : UInt8) (h : c ∈ l.dropWhile p) : c ∈ l := (List.dropWhile_sublist p).subset h
theorem stripB_mem (s : List UInt8) (c : UInt8) (h : c ∈ stripB s) : c ∈ s := by
  unfold stripB trimS trimLeftS trimRightS at h
  have h1 := dropW_mem _ _ _ h
  rw [List.mem_reverse] at h1
  have h2 := dropW_mem _ _ _ h1
  rwa [List.mem_reverse] at h2
theorem stripB_le (s : List UInt8) : (stripB s).length ≤ s.length := by
  unfold stripB trimS trimLeftS trimRightS
  have h1 := (List.dropWhile_sublist (fun c => blanks.contains c) (l := (s.reverse.dropWhile (fun c => blanks.contains c)).reverse)).length_le
  have h2 := (List.dropWhile_sublist (fun c => blanks.contains c) (l := s.reverse)).length_le
  rw [List.length_reverse] at h1 h2
  omega
theorem noBr_self (s : List UInt8) (h : ∀ c ∈ s, c ≠ 13 ∧ c ≠ 10) : noBr s = s := by
  unfold noBr
  rw [List.filter_eq_self]
  intro c hc
  simp [h c hc]
theorem noBr_mem (s : List UInt8) (c : UInt8) (h : c ∈ noBr s) : c ≠ 13 ∧ c ≠ 10 := by
  unfold noBr at h
  have := (List.mem_filter.1 h).2
  simpa using this
def trimM (s : List UInt8) : List UInt8 := stripB (noBr s)
theorem trimM_again (s : List UInt8) : trimM (trimM s) = trimM s := by
  unfold trimM
  rw [noBr_self (stripB (noBr s)) (fun c hc => noBr_mem s c (stripB_mem _ c hc)), stripB_again]
end Go.Proofs.YtbhdoocajfkfiaaGreatDoor.cln

namespace Go.Proofs.YtbhdoocajfkfiaaGreatDoor.cln
open Go.ChangeShapes Go.WideShapes Go.ChangeAt Go.RowKit Go.Lib

theorem tret_s {a b : List UInt8} (h : a = b) : Ending.returned (.string ⟨a.toArray⟩) = .returned (.string ⟨b.toArray⟩) := by rw [h]
theorem rep_call (s : List UInt8) (c : UInt8) (new : List UInt8) (hs : s.length ≤ 10000000) (hn : new.length ≤ 10) (w : World) (hG : G w) :
    Calls Tryz.prog 145 #[.string ⟨s.toArray⟩, .string ⟨#[c]⟩, .string ⟨new.toArray⟩] w fun e w' => e = .returned (.string ⟨(replaceAll s [c] new).toArray⟩) ∧ Below w.heap.size w w' := by
  obtain ⟨m, hm⟩ := hG.ml
  have hc : Lib.countB ⟨s.toArray⟩ ⟨#[c]⟩ ≤ s.length := by
    have : Lib.countB ⟨s.toArray⟩ ⟨#[c]⟩ = s.count c := Lib.count_one c s
    rw [this]; exact List.count_le_length
  have hmul : Lib.countB ⟨s.toArray⟩ ⟨#[c]⟩ * new.length ≤ 10000000 * 10 := Nat.mul_le_mul (by omega) hn
  exact Tryz.strings_ReplaceAll ⟨s.toArray⟩ ⟨#[c]⟩ ⟨new.toArray⟩ m w (by rw [bsize]; omega) hm (show 1 ≤ 1 from Nat.le_refl 1) (by rw [bsize, bsize]; omega)
theorem rep_none (s : List UInt8) (c : UInt8) (hs : s.length ≤ 10000000) (w : World) (hG : G w) :
    Calls Tryz.prog 145 #[.string ⟨s.toArray⟩, .string ⟨#[c]⟩, .string ⟨#[]⟩] w fun e w' => e = .returned (.string ⟨(s.filter (fun b => b != c)).toArray⟩) ∧ Below w.heap.size w w' := by
  have h := rep_call s c [] hs (by decide) w hG
  rw [drop_one] at h
  exact h

set_option maxHeartbeats 800000 in
set_option maxRecDepth 100000 in
theorem nobreaks_any (s : List UInt8) (hs : s.length ≤ 10000000) (w : World) (hG : G w) :
    Calls Tryz.prog 105 #[.string ⟨s.toArray⟩] w fun e w' => e = .returned (.string ⟨(noBr s).toArray⟩) ∧ Below w.heap.size w w' := by
  have h1 := fun w g => rep_none s 13 hs w g
  have hl : (s.filter (fun b => b != 13)).length ≤ s.length := List.length_filter_le _ _
  have h2 := fun w g => rep_none (s.filter (fun b => b != 13)) 10 (by omega) w g
  have e : (s.filter (fun b => b != 13)).filter (fun b => b != 10) = noBr s := by rw [← drop_one, ← drop_one, noBr_is]
  rw [e] at h2
  generalize s.filter (fun b => b != 13) = t at *
  generalize noBr s = u at *
  clear e
  go_enter Tryz.func105, Tryz.ntmps105
  go_wp2_with fail
  refine (h1 w hG).mono ?_
  rintro e w1 ⟨rfl, hB⟩
  go_wp2_with fail
  refine (h2 w1 (hG.below hB)).mono ?_
  rintro e w2 ⟨rfl, hB2⟩
  go_wp2_with fail
  go_ret
  exact ⟨rfl, below_trans hB hB2⟩

theorem trim_blanks (l : List UInt8) (hl : l.length ≤ 1000000000) (w : World) :
    Calls Tryz.prog 143 #[.string ⟨l.toArray⟩, .string ⟨#[9, 10, 12, 13, 32]⟩] w fun e w' => e = .returned (.string ⟨(stripB l).toArray⟩) ∧ Below w.heap.size w w' :=
  Any.strings_Trim_laid Tryz.lays160 (by kernel_rfl) ⟨l.toArray⟩ ⟨#[9, 10, 12, 13, 32]⟩ w (by rw [bsize]; omega) (by decide) (ascii_of_all (by decide))

set_option maxHeartbeats 800000 in
set_option maxRecDepth 100000 in
theorem strip_any (s : List UInt8) (hs : s.length ≤ 10000000) (w : World) :
    Calls Tryz.prog 146 #[.string ⟨s.toArray⟩] w fun e w' => e = .returned (.string ⟨(stripB s).toArray⟩) ∧ Below w.heap.size w w' := by
  have h1 := fun w => trim_blanks s (by omega) w
  generalize stripB s = t at *
  go_enter Tryz.func146, Tryz.ntmps146
  go_wp2_with fail
  refine (h1 w).mono ?_
  rintro e w1 ⟨rfl, hB⟩
  go_wp2_with fail
  go_ret
  exact ⟨rfl, hB⟩

set_option maxHeartbeats 800000 in
set_option maxRecDepth 100000 in
theorem mtrim_any (s : List UInt8) (hs : s.length ≤ 10000000) (w : World) (hG : G w) :
    Calls Tryz.prog 106 #[.string ⟨s.toArray⟩] w fun e w' => e = .returned (.string ⟨(trimM s).toArray⟩) ∧ Below w.heap.size w w' := by
  have h1 := fun w g => nobreaks_any s hs w g
  have hl := noBr_le s
  have h2 := fun w => strip_any (noBr s) (by omega) w
  have e : stripB (noBr s) = trimM s := rfl
  rw [e] at h2
  generalize noBr s = t at *
  generalize trimM s = u at *
  clear e
  go_enter Tryz.func106, Tryz.ntmps106
  go_wp2_with fail
  refine (h1 w hG).mono ?_
  rintro e w1 ⟨rfl, hB⟩
  go_wp2_with fail
  refine (h2 w1).mono ?_
  rintro e w2 ⟨rfl, hB2⟩
  go_wp2_with fail
  go_ret
  exact ⟨rfl, below_trans hB hB2⟩
end Go.Proofs.YtbhdoocajfkfiaaGreatDoor.cln

namespace Go.Proofs.YtbhdoocajfkfiaaGreatDoor.cln
open Go.Lib Go.Proofs.YtbhdoocajfkfiaaGreatDoor.num Go.Proofs.YtbhdoocajfkfiaaGreatDoor.mom Go.Proofs.YtbhdoocajfkfiaaGreatDoor.link Go.Proofs.YtbhdoocajfkfiaaGreatDoor.fits Go.Proofs.YtbhdoocajfkfiaaGreatDoor.atr Go.Proofs.YtbhdoocajfkfiaaGreatDoor.stp

def defV (low high : Int) : Int := if high < low then low else low + (high - low) / 2
def withinV (low high n : Int) : Int := if n < low then low else if high < n ∧ low ≤ high then high else n
def ontoV (low high base by' : Int) (steps : Bool) (n : Int) : Int :=
  if steps = false ∨ fitsB n base by' = true then n
  else if n - over n base by' + by' ≤ high ∧ (n - over n base by' + by' - n ≤ n - (n - over n base by') ∨ n - over n base by' < low) then n - over n base by' + by'
  else if low ≤ n - over n base by' then n - over n base by'
  else n
def rangeN (low high base by' : Int) (steps : Bool) (own : Int × Bool) : Int :=
  ontoV low high base by' steps (withinV low high (if own.2 = true then own.1 else defV low high))

theorem fits_over (n b s : Int) (hs : 0 < s) : fitsB n b s = true ↔ over n b s = 0 := by
  unfold fitsB over lft
  rw [decide_eq_true hs, Bool.true_and, beq_iff_eq]
  exact Int.emod_eq_emod_iff_emod_sub_eq_zero
theorem over_down (n b s : Int) : over (n - over n b s) b s = 0 := by
  unfold over
  rw [show n - (n - b) % s - b = (n - b) - (n - b) % s from by omega]
  have h := Int.emod_add_mul_ediv (n - b) s
  rw [show (n - b) - (n - b) % s = s * ((n - b) / s) from by omega]
  exact Int.mul_emod_right _ _
theorem over_up (n b s : Int) : over (n - over n b s + s) b s = 0 := by
  have h := over_down n b s
  unfold over at *
  rw [show n - (n - b) % s + s - b = (n - (n - b) % s - b) + s from by omega, Int.add_emod_right]
  exact h

/-- what is put between the bounds -/
def Between (low high n : Int) : Prop := low ≤ n ∧ (low ≤ high → n ≤ high)
theorem within_between (low high n : Int) : Between low high (withinV low high n) := by
  unfold Between withinV
  split
  · omega
  · split <;> omega
theorem within_self (low high n : Int) (h : Between low high n) : withinV low high n = n := by
  unfold Between at h
  unfold withinV
  rw [if_neg (by omega), if_neg (by omega)]
theorem onto_between (low high base s n : Int) (steps : Bool) (hs : steps = true → 0 < s) (h : Between low high n) : Between low high (ontoV low high base s steps n) := by
  unfold ontoV
  split
  · exact h
  · rename_i g
    have hst : steps = true := by
      cases steps
      · exact absurd (Or.inl rfl) g
      · rfl
    have hb := over_bd n base s (hs hst)
    unfold Between at *
    generalize over n base s = o at *
    split
    · omega
    · split <;> omega
/-- the ways in which a number is put on the steps -/
theorem onto_ways (low high base s n : Int) (steps : Bool) (hs : steps = true → 0 < s) :
    ontoV low high base s steps (ontoV low high base s steps n) = ontoV low high base s steps n ∧
    (ontoV low high base s steps n = n ∨ fitsB (ontoV low high base s steps n) base s = true) := by
  have hself : ∀ m, fitsB m base s = true → ontoV low high base s steps m = m := fun m h => by unfold ontoV; rw [if_pos (Or.inr h)]
  by_cases g : steps = false ∨ fitsB n base s = true
  · have e : ontoV low high base s steps n = n := by unfold ontoV; rw [if_pos g]
    rw [e]; exact ⟨e, .inl rfl⟩
  · have hst : steps = true := by
      cases steps
      · exact absurd (Or.inl rfl) g
      · rfl
    have h0 := hs hst
    by_cases g1 : n - over n base s + s ≤ high ∧ (n - over n base s + s - n ≤ n - (n - over n base s) ∨ n - over n base s < low)
    · have e : ontoV low high base s steps n = n - over n base s + s := by unfold ontoV; rw [if_neg g, if_pos g1]
      have f : fitsB (n - over n base s + s) base s = true := (fits_over _ _ _ h0).2 (over_up n base s)
      rw [e]; exact ⟨hself _ f, .inr f⟩
    · by_cases g2 : low ≤ n - over n base s
      · have e : ontoV low high base s steps n = n - over n base s := by unfold ontoV; rw [if_neg g, if_neg g1, if_pos g2]
        have f : fitsB (n - over n base s) base s = true := (fits_over _ _ _ h0).2 (over_down n base s)
        rw [e]; exact ⟨hself _ f, .inr f⟩
      · have e : ontoV low high base s steps n = n := by unfold ontoV; rw [if_neg g, if_neg g1, if_neg g2]
        rw [e]; exact ⟨e, .inl rfl⟩
/-- a number off the steps between bounds: none is on them -/
theorem onto_off (low high base s n : Int) (steps : Bool) (hst : steps = true) (h0 : 0 < s) (_hw : Between low high n) (_hlh : low ≤ high) (hf : fitsB (ontoV low high base s steps n) base s = false) : high - low < s := by
  have e : ontoV low high base s steps n = n := by
    rcases (onto_ways low high base s n steps (fun _ => h0)).2 with h | h
    · exact h
    · rw [h] at hf; cases hf
  rw [e] at hf
  have hb := over_bd n base s h0
  unfold ontoV at e
  rw [if_neg (by rw [hst, hf]; simp)] at e
  unfold Between at _hw
  have hz : over n base s ≠ 0 := fun k => by rw [(fits_over n base s h0).2 k] at hf; cases hf
  generalize over n base s = o at *
  split at e
  · omega
  · rename_i g1
    split at e
    · omega
    · omega

theorem def_between (low high : Int) : Between low high (defV low high) := by
  unfold Between defV
  split <;> omega
theorem range_between (low high base s : Int) (steps : Bool) (own : Int × Bool) (hs : steps = true → 0 < s) : Between low high (rangeN low high base s steps own) :=
  onto_between _ _ _ _ _ _ hs (within_between _ _ _)
theorem range_again (low high base s : Int) (steps : Bool) (own : Int × Bool) (hs : steps = true → 0 < s) : rangeN low high base s steps (rangeN low high base s steps own, true) = rangeN low high base s steps own := by
  have h := range_between low high base s steps own hs
  have e : rangeN low high base s steps (rangeN low high base s steps own, true) = ontoV low high base s steps (withinV low high (rangeN low high base s steps own)) := by
    show ontoV low high base s steps (withinV low high (if true = true then _ else _)) = _
    rw [if_pos rfl]
  rw [e, within_self _ _ _ h]
  exact (onto_ways low high base s _ steps hs).1

/-- of a range's value what comes -/
def rangeOf (l : List Attr) (s : List UInt8) : Int := rangeN (leastK 14 l).1 (mostK 14 l).1 (baseK 14 l) (stepK 14 l).1 (stepK 14 l).2 (valK 14 s)
def rangeV (l : List Attr) (s : List UInt8) : List UInt8 := if (valK 14 s).2 = true ∧ rangeOf l s = (valK 14 s).1 then s else (showK 14 (rangeOf l s)).1

def e18 (n : Int) : Prop := -1000000000000000000 ≤ n ∧ n ≤ 1000000000000000000
theorem val14_e18 (s : List UInt8) : e18 (valK 14 s).1 := by
  have := parse_bd s
  unfold valK e18
  rw [if_pos (Or.inr rfl)]
  dsimp only; omega
theorem bound14_e18 (l : List Attr) (nm : List UInt8) : e18 (boundK 14 l nm).1 := by
  unfold boundK
  split
  · unfold e18; dsimp only; omega
  · exact val14_e18 _
theorem least14_e18 (l : List Attr) : e18 (leastK 14 l).1 ∧ (leastK 14 l).2 = true := by
  refine ⟨bound14_e18 l nMin, ?_⟩
  unfold leastK
  simp
theorem most14_e18 (l : List Attr) : e18 (mostK 14 l).1 ∧ (mostK 14 l).2 = true := by
  have h1 := bound14_e18 l nMax
  have h2 := (least14_e18 l).1
  unfold mostK
  split
  · rename_i g
    rcases g with g | g
    · exact ⟨h1, g⟩
    · exact absurd rfl g
  · unfold e18 at *
    exact ⟨by dsimp only; omega, rfl⟩
theorem range_e18 (l : List Attr) (s : List UInt8) : e18 (rangeOf l s) ∧ Between (leastK 14 l).1 (mostK 14 l).1 (rangeOf l s) := by
  have hb := range_between (leastK 14 l).1 (mostK 14 l).1 (baseK 14 l) (stepK 14 l).1 (stepK 14 l).2 (valK 14 s) (fun h => (stepK_pos 14 l h).1)
  refine ⟨?_, hb⟩
  have h1 := (least14_e18 l).1
  have h2 := (most14_e18 l).1
  have h3 := val14_e18 s
  by_cases g : (leastK 14 l).1 ≤ (mostK 14 l).1
  · unfold Between at hb
    unfold e18 at *
    unfold rangeOf
    omega
  · -- above the upper bound: never up
    have hw : e18 (withinV (leastK 14 l).1 (mostK 14 l).1 (if (valK 14 s).2 = true then (valK 14 s).1 else defV (leastK 14 l).1 (mostK 14 l).1)) := by
      have hd : e18 (defV (leastK 14 l).1 (mostK 14 l).1) := by unfold defV; rw [if_pos (by omega)]; exact h1
      have hin : e18 (if (valK 14 s).2 = true then (valK 14 s).1 else defV (leastK 14 l).1 (mostK 14 l).1) := by
        split
        · exact h3
        · exact hd
      generalize (if (valK 14 s).2 = true then (valK 14 s).1 else defV (leastK 14 l).1 (mostK 14 l).1) = m at *
      unfold withinV
      split
      · exact h1
      · split
        · exact h2
        · exact hin
    unfold Between at hb
    have hle : rangeOf l s ≤ withinV (leastK 14 l).1 (mostK 14 l).1 (if (valK 14 s).2 = true then (valK 14 s).1 else defV (leastK 14 l).1 (mostK 14 l).1) := by
      have hwb := within_between (leastK 14 l).1 (mostK 14 l).1 (if (valK 14 s).2 = true then (valK 14 s).1 else defV (leastK 14 l).1 (mostK 14 l).1)
      unfold rangeOf rangeN
      generalize withinV (leastK 14 l).1 (mostK 14 l).1 (if (valK 14 s).2 = true then (valK 14 s).1 else defV (leastK 14 l).1 (mostK 14 l).1) = n at *
      unfold ontoV
      split
      · omega
      · rename_i k
        have hst : (stepK 14 l).2 = true := by
          cases q : (stepK 14 l).2
          · exact absurd (Or.inl q) k
          · rfl
        have ho := over_bd n (baseK 14 l) (stepK 14 l).1 (stepK_pos 14 l hst).1
        unfold Between at hwb
        split
        · omega
        · split <;> omega
    unfold e18 at *
    unfold rangeOf at *
    omega
/-- what comes of a range's value has the number -/
theorem rangeV_val (l : List Attr) (s : List UInt8) : valK 14 (rangeV l s) = (rangeOf l s, true) := by
  unfold rangeV
  by_cases g : (valK 14 s).2 = true ∧ rangeOf l s = (valK 14 s).1
  · rw [if_pos g]
    exact Prod.ext g.2.symm g.1
  · rw [if_neg g]
    have h := (range_e18 l s).1
    unfold e18 at h
    apply showK_back
    unfold showK
    rw [if_pos (Or.inr rfl), if_neg (by omega)]
theorem rangeV_again (l : List Attr) (s : List UInt8) : rangeV l (rangeV l s) = rangeV l s := by
  have hv := rangeV_val l s
  have e : rangeOf l (rangeV l s) = rangeOf l s := by
    show rangeN (leastK 14 l).1 (mostK 14 l).1 (baseK 14 l) (stepK 14 l).1 (stepK 14 l).2 (valK 14 (rangeV l s)) = _
    rw [hv]
    exact range_again _ _ _ _ _ _ (fun h => (stepK_pos 14 l h).1)
  have : rangeV l (rangeV l s) = if (valK 14 (rangeV l s)).2 = true ∧ rangeOf l (rangeV l s) = (valK 14 (rangeV l s)).1 then rangeV l s else (showK 14 (rangeOf l (rangeV l s))).1 := rfl
  rw [this, e, hv, if_pos ⟨rfl, rfl⟩]
end Go.Proofs.YtbhdoocajfkfiaaGreatDoor.cln

namespace Go.Proofs.YtbhdoocajfkfiaaGreatDoor.cln
open Go.ChangeShapes Go.WideShapes Go.ChangeAt Go.RowKit Go.Lib Go.Proofs.YtbhdoocajfkfiaaGreatDoor.num Go.Proofs.YtbhdoocajfkfiaaGreatDoor.mom Go.Proofs.YtbhdoocajfkfiaaGreatDoor.fits Go.Proofs.YtbhdoocajfkfiaaGreatDoor.atr Go.Proofs.YtbhdoocajfkfiaaGreatDoor.link Go.Proofs.YtbhdoocajfkfiaaGreatDoor.stp

theorem half_up (a b : Int) (h : ¬ b < a) : (b - a).tdiv 2 = (b - a) / 2 := Int.tdiv_eq_ediv_of_nonneg (by omega)

set_option maxHeartbeats 1600000 in
set_option maxRecDepth 100000 in
theorem default_any (v : Value) (l : List Attr) (hl : Fine l) (w : World) (hA : AttrsAt w v l) (hG : G w) (hE : GE w) :
    Calls Tryz.prog 154 #[v] w fun e w' => e = .returned (.int .i64 (defV (leastK 14 l).1 (mostK 14 l).1)) ∧ Below w.heap.size w w' := by
  have h1 := fun w h g k => least_any 14 ⟨by decide, by decide⟩ v l hl w h g k
  have h2 := fun w h g k => most_any 14 ⟨by decide, by decide⟩ v l hl w h g k
  obtain ⟨a1, a2⟩ := (least14_e18 l).1
  obtain ⟨b1, b2⟩ := (most14_e18 l).1
  generalize (leastK 14 l).1 = lo at *
  generalize (leastK 14 l).2 = has at *
  generalize (mostK 14 l).1 = hg at *
  generalize (mostK 14 l).2 = is at *
  by_cases g : hg < lo
  · have HX : Hid (defV lo hg = lo) := Lib.hid (by unfold defV; rw [if_pos g])
    go_enter Tryz.func154, Tryz.ntmps154
    go_wp2_with fail
    refine (h1 w hA hG hE).mono ?_
    rintro e w1 ⟨rfl, hB⟩
    go_wp2_with fail
    refine (h2 w1 (hA.below hB) (hG.below hB) (hE.below hB)).mono ?_
    rintro e w2 ⟨rfl, hB2⟩
    go_wp2_with fail
    go_ret
    exact ⟨sret_i HX.out.symm, below_trans hB hB2⟩
  · have HX : Hid (defV lo hg = lo + (hg - lo) / 2) := Lib.hid (by unfold defV; rw [if_neg g])
    have hh := half_up lo hg g
    go_enter Tryz.func154, Tryz.ntmps154
    go_wp2_with fail
    refine (h1 w hA hG hE).mono ?_
    rintro e w1 ⟨rfl, hB⟩
    go_wp2_with fail
    refine (h2 w1 (hA.below hB) (hG.below hB) (hE.below hB)).mono ?_
    rintro e w2 ⟨rfl, hB2⟩
    go_wp2_with fail
    go_ret
    exact ⟨sret_i (by rw [HX.out]), below_trans hB hB2⟩

set_option maxHeartbeats 1600000 in
set_option maxRecDepth 100000 in
theorem within_any (n : Int) (hn : e18 n) (v : Value) (l : List Attr) (hl : Fine l) (w : World) (hA : AttrsAt w v l) (hG : G w) (hE : GE w) :
    Calls Tryz.prog 156 #[.int .i64 n, v] w fun e w' => e = .returned (.int .i64 (withinV (leastK 14 l).1 (mostK 14 l).1 n)) ∧ Below w.heap.size w w' := by
  have h1 := fun w h g k => least_any 14 ⟨by decide, by decide⟩ v l hl w h g k
  have h2 := fun w h g k => most_any 14 ⟨by decide, by decide⟩ v l hl w h g k
  obtain ⟨n1, n2⟩ := hn
  obtain ⟨a1, a2⟩ := (least14_e18 l).1
  obtain ⟨b1, b2⟩ := (most14_e18 l).1
  generalize (leastK 14 l).1 = lo at *
  generalize (leastK 14 l).2 = has at *
  generalize (mostK 14 l).1 = hg at *
  generalize (mostK 14 l).2 = is at *
  obtain ⟨r, hr⟩ : ∃ r, r = withinV lo hg n := ⟨_, rfl⟩
  rw [← hr]
  unfold withinV at hr
  have HR := Lib.hid hr
  clear hr
  go_enter Tryz.func156, Tryz.ntmps156
  go_wp2_with fail
  refine (h1 w hA hG hE).mono ?_
  rintro e w1 ⟨rfl, hB⟩
  go_wp2_with fail
  refine (h2 w1 (hA.below hB) (hG.below hB) (hE.below hB)).mono ?_
  rintro e w2 ⟨rfl, hB2⟩
  have hBB := below_trans hB hB2
  clear h1 h2 hB hB2
  by_cases c1 : n < lo
  · have HX : Hid (r = lo) := Lib.hid (by rw [HR.out, if_pos c1])
    go_wp2_with fail
    go_ret
    exact ⟨sret_i HX.out.symm, hBB⟩
  by_cases c2 : hg < n
  · by_cases c3 : lo ≤ hg
    · have HX : Hid (r = hg) := Lib.hid (by rw [HR.out, if_neg c1, if_pos ⟨c2, c3⟩])
      go_wp2_with fail
      go_ret
      exact ⟨sret_i HX.out.symm, hBB⟩
    · have HX : Hid (r = n) := Lib.hid (by rw [HR.out, if_neg c1, if_neg (fun k => c3 k.2)])
      go_wp2_with fail
      go_ret
      exact ⟨sret_i HX.out.symm, hBB⟩
  · have HX : Hid (r = n) := Lib.hid (by rw [HR.out, if_neg c1, if_neg (fun k => c2 k.1)])
    go_wp2_with fail
    go_ret
    exact ⟨sret_i HX.out.symm, hBB⟩

theorem down_is (n b s : Int) (hs : 0 < s) (hn : e18 n) (hs2 : s ≤ 1000000000000000000) : downV n b s = n - over n b s := by
  have := over_bd n b s hs
  unfold e18 at hn
  exact downV_yes n b s hs (by omega)

/-- the part of 'onto' behind the test, as both have it -/
def ontoT (low high s n d : Int) : Int := if d + s ≤ high ∧ (d + s - n ≤ n - d ∨ d < low) then d + s else if low ≤ d then d else n

set_option maxHeartbeats 3200000 in
set_option maxRecDepth 100000 in
theorem onto_any (n : Int) (hn : e18 n) (v : Value) (l : List Attr) (hl : Fine l) (w : World) (hA : AttrsAt w v l) (hG : G w) (hE : GE w) :
    Calls Tryz.prog 155 #[.int .i64 n, v] w fun e w' => e = .returned (.int .i64 (ontoV (leastK 14 l).1 (mostK 14 l).1 (baseK 14 l) (stepK 14 l).1 (stepK 14 l).2 n)) ∧ Below w.heap.size w w' := by
  have h1 := fun w h g k => least_any 14 ⟨by decide, by decide⟩ v l hl w h g k
  have h2 := fun w h g k => most_any 14 ⟨by decide, by decide⟩ v l hl w h g k
  have h3 := fun w h g k => step_any 14 ⟨by decide, by decide⟩ v l hl w h g k
  have h4 := fun w h g k => base_any 14 ⟨by decide, by decide⟩ v l hl w h g k
  have hpos := stepK_pos 14 l
  obtain ⟨s1, s2⟩ := stepK_64 14 l
  obtain ⟨t1, t2⟩ := baseK_64 14 l
  obtain ⟨n1, n2⟩ := hn
  obtain ⟨a1, a2⟩ := (least14_e18 l).1
  obtain ⟨b1, b2⟩ := (most14_e18 l).1
  generalize (leastK 14 l).1 = lo at *
  generalize (leastK 14 l).2 = has at *
  generalize (mostK 14 l).1 = hg at *
  generalize (mostK 14 l).2 = is at *
  generalize (stepK 14 l).1 = s at *
  generalize (stepK 14 l).2 = st at *
  generalize baseK 14 l = ba at *
  obtain ⟨r, hr⟩ : ∃ r, r = ontoV lo hg ba s st n := ⟨_, rfl⟩
  rw [← hr]
  unfold ontoV at hr
  have HR := Lib.hid hr
  have HPOS := Lib.hid hpos
  clear hr hpos hl
  have hf := fun w => fits_any n ba s w s1 s2 (by omega) (by omega) t1 t2
  have hd := fun w => down_any n ba s w s1 s2 (by omega) (by omega) t1 t2
  generalize hfi : fitsB n ba s = fi at *
  have HFI := Lib.hid hfi
  clear hfi
  go_enter Tryz.func155, Tryz.ntmps155
  go_wp2_with fail
  refine (h3 w hA hG hE).mono ?_
  rintro e w1 ⟨rfl, hB1⟩
  go_wp2_with fail
  refine (h4 w1 (hA.below hB1) (hG.below hB1) (hE.below hB1)).mono ?_
  rintro e w2 ⟨rfl, b2'⟩
  have hB2 := below_trans hB1 b2'
  clear h3 h4 hB1 b2'
  cases st
  · have HX : Hid (r = n) := Lib.hid (by rw [HR.out, if_pos (Or.inl rfl)])
    go_wp2_with fail
    go_ret
    exact ⟨sret_i HX.out.symm, hB2⟩
  cases fi
  case true =>
    have HX : Hid (r = n) := Lib.hid (by rw [HR.out, if_pos (Or.inr (by first | rfl | exact HFI.out))])
    go_wp2_with fail
    refine (hf _).mono ?_
    rintro e w' ⟨rfl, rfl⟩
    go_wp2_with fail
    go_ret
    exact ⟨sret_i HX.out.symm, hB2⟩
  obtain ⟨p1, p2⟩ := HPOS.out rfl
  have ho := over_bd n ba s p1
  have hdv : downV n ba s = n - over n ba s := downV_yes n ba s p1 (by omega)
  rw [hdv] at hd
  generalize downB n ba s = db at *
  obtain ⟨d, hdd⟩ : ∃ d, d = n - over n ba s := ⟨_, rfl⟩
  rw [← hdd] at hd
  have d1 : d ≤ n := by omega
  have d2 : n < d + s := by omega
  have HR1 : Hid (r = ontoT lo hg s n d) := Lib.hid (by
    rw [HR.out, if_neg (by simp), ← hdd]; rfl)
  clear HR HPOS HFI hdd ho hdv
  go_wp2_with fail
  refine (hf _).mono ?_
  rintro e w' ⟨rfl, rfl⟩
  clear hf
  go_wp2_with fail
  refine (h1 w2 (hA.below hB2) (hG.below hB2) (hE.below hB2)).mono ?_
  rintro e w3 ⟨rfl, b3⟩
  have hB3 := below_trans hB2 b3
  go_wp2_with fail
  refine (h2 w3 (hA.below hB3) (hG.below hB3) (hE.below hB3)).mono ?_
  rintro e w4 ⟨rfl, b4⟩
  have hB4 := below_trans hB3 b4
  clear h1 h2 b3 b4 hB2 hB3
  go_wp2_with fail
  refine (hd _).mono ?_
  rintro e w' ⟨rfl, rfl⟩
  clear hd
  unfold ontoT at HR1
  by_cases c1 : d + s ≤ hg
  · by_cases c2 : d + s - n ≤ n - d
    · have HX : Hid (r = d + s) := Lib.hid (by rw [HR1.out, if_pos ⟨c1, Or.inl c2⟩])
      go_wp2_with fail
      go_ret
      exact ⟨sret_i HX.out.symm, hB4⟩
    · by_cases c3 : d < lo
      · have HX : Hid (r = d + s) := Lib.hid (by rw [HR1.out, if_pos ⟨c1, Or.inr c3⟩])
        go_wp2_with fail
        go_ret
        exact ⟨sret_i HX.out.symm, hB4⟩
      · have HX : Hid (r = d) := Lib.hid (by rw [HR1.out, if_neg (fun k => k.2.elim c2 c3), if_pos (by omega)])
        go_wp2_with fail
        go_ret
        exact ⟨sret_i HX.out.symm, hB4⟩
  · by_cases c3 : d < lo
    · have HX : Hid (r = n) := Lib.hid (by rw [HR1.out, if_neg (fun k => c1 k.1), if_neg (by omega)])
      go_wp2_with fail
      go_ret
      exact ⟨sret_i HX.out.symm, hB4⟩
    · have HX : Hid (r = d) := Lib.hid (by rw [HR1.out, if_neg (fun k => c1 k.1), if_pos (by omega)])
      go_wp2_with fail
      go_ret
      exact ⟨sret_i HX.out.symm, hB4⟩
end Go.Proofs.YtbhdoocajfkfiaaGreatDoor.cln

namespace Go.Proofs.YtbhdoocajfkfiaaGreatDoor.cln
open Go.ChangeShapes Go.WideShapes Go.ChangeAt Go.RowKit Go.Lib Go.Proofs.YtbhdoocajfkfiaaGreatDoor.num Go.Proofs.YtbhdoocajfkfiaaGreatDoor.mom Go.Proofs.YtbhdoocajfkfiaaGreatDoor.fits Go.Proofs.YtbhdoocajfkfiaaGreatDoor.atr Go.Proofs.YtbhdoocajfkfiaaGreatDoor.link Go.Proofs.YtbhdoocajfkfiaaGreatDoor.stp

theorem sret_s {a b : List UInt8} (h : a = b) : Ending.returned (.string ⟨a.toArray⟩) = .returned (.string ⟨b.toArray⟩) := by rw [h]
theorem def_e18 (lo hg : Int) (h1 : e18 lo) (h2 : e18 hg) : e18 (defV lo hg) := by
  unfold e18 at *
  unfold defV
  split <;> omega
theorem within_e18 (lo hg n : Int) (h1 : e18 lo) (h2 : e18 hg) (h3 : e18 n) : e18 (withinV lo hg n) := by
  unfold withinV
  split
  · exact h1
  · split
    · exact h2
    · exact h3

set_option maxHeartbeats 3200000 in
set_option maxRecDepth 100000 in
theorem ranged_any (v : Value) (l : List Attr) (hl : Fine l) (s : List UInt8) (hs : s.length ≤ 1000000) (w : World) (hA : AttrsAt w v l) (hG : G w) (hE : GE w) :
    Calls Tryz.prog 112 #[v, .string ⟨s.toArray⟩] w fun e w' => e = .returned (.string ⟨(rangeV l s).toArray⟩) ∧ Below w.heap.size w w' := by
  have h1 := fun w g k => value_any 14 ⟨by decide, by decide⟩ s hs w g k
  have h2 := fun w h g k => default_any v l hl w h g k
  have h3 := fun n hn w h g k => within_any n hn v l hl w h g k
  have h4 := fun n hn w h g k => onto_any n hn v l hl w h g k
  have hre := (range_e18 l s).1
  have h5 := fun w g => show_any 14 ⟨by decide, by decide⟩ (rangeOf l s) ⟨by unfold e18 at hre; omega, by unfold e18 at hre; omega⟩ w g
  have hR : rangeV l s = if (valK 14 s).2 = true ∧ rangeOf l s = (valK 14 s).1 then s else (showK 14 (rangeOf l s)).1 := rfl
  have hO : rangeOf l s = ontoV (leastK 14 l).1 (mostK 14 l).1 (baseK 14 l) (stepK 14 l).1 (stepK 14 l).2 (withinV (leastK 14 l).1 (mostK 14 l).1 (if (valK 14 s).2 = true then (valK 14 s).1 else defV (leastK 14 l).1 (mostK 14 l).1)) := rfl
  have el := (least14_e18 l).1
  have em := (most14_e18 l).1
  have ev := val14_e18 s
  have ed := def_e18 _ _ el em
  rw [hR]
  clear hR
  generalize rangeOf l s = n at *
  generalize (showK 14 n).1 = t at *
  generalize (showK 14 n).2 = tq at *
  generalize (leastK 14 l).1 = lo at *
  generalize (mostK 14 l).1 = hg at *
  generalize (stepK 14 l).1 = by' at *
  generalize (stepK 14 l).2 = st at *
  generalize baseK 14 l = ba at *
  generalize (valK 14 s).1 = was at *
  generalize (valK 14 s).2 = ok at *
  generalize defV lo hg = df at *
  have HO := Lib.hid hO
  clear hO hl
  obtain ⟨r, hr⟩ : ∃ r, r = (if ok = true ∧ n = was then s else t) := ⟨_, rfl⟩
  rw [← hr]
  have HR := Lib.hid hr
  clear hr
  go_enter Tryz.func112, Tryz.ntmps112
  go_wp2_with fail
  refine (h1 w hG hE).mono ?_
  rintro e w1 ⟨rfl, hB1⟩
  clear h1
  have hA1 := hA.below hB1
  have hG1 := hG.below hB1
  have hE1 := hE.below hB1
  cases ok
  · have hw := h3 df ed
    have ew := within_e18 lo hg df el em ed
    have ho := h4 _ ew
    have e : n = ontoV lo hg ba by' st (withinV lo hg df) := HO.out
    rw [← e] at ho
    generalize withinV lo hg df = m at *
    clear h3 h4 e HO
    have HX : Hid (r = t) := Lib.hid (by rw [HR.out, if_neg (fun k => by cases k.1)])
    clear HR
    go_wp2_with fail
    refine (h2 w1 hA1 hG1 hE1).mono ?_
    rintro e w2 ⟨rfl, b2⟩
    have hB2 := below_trans hB1 b2
    go_wp2_with fail
    refine (hw w2 (hA.below hB2) (hG.below hB2) (hE.below hB2)).mono ?_
    rintro e w3 ⟨rfl, b3⟩
    have hB3 := below_trans hB2 b3
    go_wp2_with fail
    refine (ho w3 (hA.below hB3) (hG.below hB3) (hE.below hB3)).mono ?_
    rintro e w4 ⟨rfl, b4⟩
    have hB4 := below_trans hB3 b4
    go_wp2_with fail
    refine (h5 w4 (hG.below hB4)).mono ?_
    rintro e w5 ⟨rfl, b5⟩
    go_wp2_with fail
    go_ret
    exact ⟨sret_s HX.out.symm, below_trans hB4 b5⟩
  · have hw := h3 was ev
    have ew := within_e18 lo hg was el em ev
    have ho := h4 _ ew
    have e : n = ontoV lo hg ba by' st (withinV lo hg was) := HO.out
    rw [← e] at ho
    generalize withinV lo hg was = m at *
    clear h2 h3 h4 e HO
    go_wp2_with fail
    refine (hw w1 hA1 hG1 hE1).mono ?_
    rintro e w3 ⟨rfl, b3⟩
    have hB3 := below_trans hB1 b3
    go_wp2_with fail
    refine (ho w3 (hA.below hB3) (hG.below hB3) (hE.below hB3)).mono ?_
    rintro e w4 ⟨rfl, b4⟩
    have hB4 := below_trans hB3 b4
    by_cases c : n = was
    · have HX : Hid (r = s) := Lib.hid (by rw [HR.out, if_pos ⟨by first | rfl | trivial, c⟩])
      have t1 : (n == was) = true := by simpa using c
      clear c
      go_wp2_with fail
      go_ret
      exact ⟨sret_s HX.out.symm, hB4⟩
    · have HX : Hid (r = t) := Lib.hid (by rw [HR.out, if_neg (fun k => c k.2)])
      have t1 : (n == was) = false := by simpa using c
      clear c
      go_wp2_with fail
      refine (h5 w4 (hG.below hB4)).mono ?_
      rintro e w5 ⟨rfl, b5⟩
      go_wp2_with fail
      go_ret
      exact ⟨sret_s HX.out.symm, below_trans hB4 b5⟩

set_option maxHeartbeats 1600000 in
set_option maxRecDepth 100000 in
theorem rdefault_any (v : Value) (l : List Attr) (hl : Fine l) (w : World) (hA : AttrsAt w v l) :
    Calls Tryz.prog 125 #[v] w fun e w' => e = .returned (.int .i64 (defV (leastK 14 l).1 (mostK 14 l).1)) ∧ Below w.heap.size w w' := by
  have h1 := fun w h => rleast_any 14 ⟨by decide, by decide⟩ v l hl w h
  have h2 := fun w h => rmost_any 14 ⟨by decide, by decide⟩ v l hl w h
  obtain ⟨a1, a2⟩ := (least14_e18 l).1
  obtain ⟨b1, b2⟩ := (most14_e18 l).1
  generalize (leastK 14 l).1 = lo at *
  generalize (leastK 14 l).2 = has at *
  generalize (mostK 14 l).1 = hg at *
  generalize (mostK 14 l).2 = is at *
  by_cases g : hg < lo
  · have HX : Hid (defV lo hg = lo) := Lib.hid (by unfold defV; rw [if_pos g])
    go_enter Tryz.func125, Tryz.ntmps125
    go_wp2_with fail
    refine (h1 w hA).mono ?_
    rintro e w1 ⟨rfl, hB⟩
    go_wp2_with fail
    refine (h2 w1 (hA.below hB)).mono ?_
    rintro e w2 ⟨rfl, hB2⟩
    go_wp2_with fail
    go_ret
    exact ⟨sret_i HX.out.symm, below_trans hB hB2⟩
  · have HX : Hid (defV lo hg = lo + (hg - lo) / 2) := Lib.hid (by unfold defV; rw [if_neg g])
    have hh := half_up lo hg g
    go_enter Tryz.func125, Tryz.ntmps125
    go_wp2_with fail
    refine (h1 w hA).mono ?_
    rintro e w1 ⟨rfl, hB⟩
    go_wp2_with fail
    refine (h2 w1 (hA.below hB)).mono ?_
    rintro e w2 ⟨rfl, hB2⟩
    go_wp2_with fail
    go_ret
    exact ⟨sret_i (by rw [HX.out]), below_trans hB hB2⟩

set_option maxHeartbeats 6400000 in
set_option maxRecDepth 100000 in
theorem rrange_any (v : Value) (l : List Attr) (hl : Fine l) (s : List UInt8) (hs : s.length ≤ 1000000) (w : World) (hA : AttrsAt w v l) :
    Calls Tryz.prog 77 #[v, .string ⟨s.toArray⟩] w fun e w' => e = .returned (.string ⟨(rangeV l s).toArray⟩) ∧ Below w.heap.size w w' := by
  have h1 := fun w h => rleast_any 14 ⟨by decide, by decide⟩ v l hl w h
  have h2 := fun w h => rmost_any 14 ⟨by decide, by decide⟩ v l hl w h
  have h3 := fun w h => rstep_any 14 ⟨by decide, by decide⟩ v l hl w h
  have h4 := fun w h => rbase_any 14 ⟨by decide, by decide⟩ v l hl w h
  have h5 := fun w => rvalue_any 14 ⟨by decide, by decide⟩ s hs w
  have h6 := fun w h => rdefault_any v l hl w h
  have hre := (range_e18 l s).1
  have h7 := fun w => rshowk_any 14 ⟨by decide, by decide⟩ (rangeOf l s) ⟨by unfold e18 at hre; omega, by unfold e18 at hre; omega⟩ w
  have hR : rangeV l s = if (valK 14 s).2 = true ∧ rangeOf l s = (valK 14 s).1 then s else (showK 14 (rangeOf l s)).1 := rfl
  have hO : rangeOf l s = ontoV (leastK 14 l).1 (mostK 14 l).1 (baseK 14 l) (stepK 14 l).1 (stepK 14 l).2 (withinV (leastK 14 l).1 (mostK 14 l).1 (if (valK 14 s).2 = true then (valK 14 s).1 else defV (leastK 14 l).1 (mostK 14 l).1)) := rfl
  have el := (least14_e18 l).1
  have em := (most14_e18 l).1
  have ev := val14_e18 s
  have ed := def_e18 _ _ el em
  have hpos := stepK_pos 14 l
  obtain ⟨s1, s2⟩ := stepK_64 14 l
  obtain ⟨t1, t2⟩ := baseK_64 14 l
  rw [hR]
  clear hR
  generalize rangeOf l s = n at *
  generalize (showK 14 n).1 = t at *
  generalize (showK 14 n).2 = tq at *
  generalize (leastK 14 l).1 = lo at *
  generalize (leastK 14 l).2 = has at *
  generalize (mostK 14 l).1 = hg at *
  generalize (mostK 14 l).2 = is at *
  generalize (stepK 14 l).1 = by' at *
  generalize (stepK 14 l).2 = st at *
  generalize baseK 14 l = ba at *
  generalize (valK 14 s).1 = was at *
  generalize (valK 14 s).2 = ok at *
  generalize defV lo hg = df at *
  obtain ⟨r, hr⟩ : ∃ r, r = (if ok = true ∧ n = was then s else t) := ⟨_, rfl⟩
  rw [← hr]
  obtain ⟨m0, hm0⟩ : ∃ m0, m0 = (if ok = true then was else df) := ⟨_, rfl⟩
  rw [← hm0] at hO
  have e0 : e18 m0 := by rw [hm0]; split <;> assumption
  have ew := within_e18 lo hg m0 el em e0
  obtain ⟨m1, hm1⟩ : ∃ m1, m1 = withinV lo hg m0 := ⟨_, rfl⟩
  rw [← hm1] at hO ew
  obtain ⟨u1, u2⟩ := ew
  have hf := fun w => reffits_any m1 ba by' w s1 s2 (by omega) (by omega) t1 t2
  have hd := fun w => refdown_any m1 ba by' w s1 s2 (by omega) (by omega) t1 t2
  have HR := Lib.hid hr
  have HM0 := Lib.hid hm0
  have HM1 := Lib.hid hm1
  have HO := Lib.hid hO
  have HPOS := Lib.hid hpos
  obtain ⟨a1, a2⟩ := el
  obtain ⟨b1, b2⟩ := em
  clear hr hm0 hm1 hO hl hpos ed ev e0
  generalize hfi : fitsB m1 ba by' = fi at *
  have HFI := Lib.hid hfi
  clear hfi
  go_enter Tryz.func77, Tryz.ntmps77
  go_wp2_with fail
  refine (h1 w hA).mono ?_
  rintro e w1 ⟨rfl, hB1⟩
  go_wp2_with fail
  refine (h2 w1 (hA.below hB1)).mono ?_
  rintro e w2 ⟨rfl, c2⟩
  have hB2 := below_trans hB1 c2
  clear h1 h2 hB1 c2
  go_wp2_with fail
  refine (h3 w2 (hA.below hB2)).mono ?_
  rintro e w3 ⟨rfl, c3⟩
  have hB3 := below_trans hB2 c3
  clear h3 hB2 c3
  go_wp2_with fail
  refine (h4 w3 (hA.below hB3)).mono ?_
  rintro e w4 ⟨rfl, c4⟩
  have hB4 := below_trans hB3 c4
  clear h4 hB3 c4
  go_wp2_with fail
  refine (h5 w4).mono ?_
  rintro e w5 ⟨rfl, c5⟩
  have hB5 := below_trans hB4 c5
  have hA5 := hA.below hB5
  clear h5 hB4 c5
  go_upto_if 44 with fail
  go_cut [14] (fun s14 wx => s14 = .int .i64 m0 ∧ Below w.heap.size w wx)
  case first =>
    cases ok
    · have HX : Hid (m0 = df) := Lib.hid (by rw [HM0.out]; rfl)
      go_wp2_with fail
      refine (h6 w5 hA5).mono ?_
      rintro e w6 ⟨rfl, c6⟩
      go_wp2_with fail
      go_meet
      exact ⟨by rw [HX.out], below_trans hB5 c6⟩
    · have HX : Hid (m0 = was) := Lib.hid (by rw [HM0.out]; rfl)
      go_wp2_with fail
      go_meet
      exact ⟨by rw [HX.out], hB5⟩
  case rest =>
  obtain ⟨rfl, hB6⟩ := hcut
  clear HM0 h6 hB5 hA5
  go_upto_if 49 with fail
  go_cut [14] (fun s14 wx => s14 = .int .i64 m1 ∧ wc = wx)
  case first =>
    by_cases g1 : m0 < lo
    · have HX : Hid (m1 = lo) := Lib.hid (by rw [HM1.out]; unfold withinV; rw [if_pos g1])
      go_wp2_with fail
      go_meet
      exact ⟨by rw [HX.out], rfl⟩
    by_cases g2 : hg < m0
    · by_cases g3 : lo ≤ hg
      · have HX : Hid (m1 = hg) := Lib.hid (by rw [HM1.out]; unfold withinV; rw [if_neg g1, if_pos ⟨g2, g3⟩])
        go_wp2_with fail
        go_meet
        exact ⟨by rw [HX.out], rfl⟩
      · have HX : Hid (m1 = m0) := Lib.hid (by rw [HM1.out]; unfold withinV; rw [if_neg g1, if_neg (fun k => g3 k.2)])
        go_wp2_with fail
        go_meet
        exact ⟨by rw [HX.out], rfl⟩
    · have HX : Hid (m1 = m0) := Lib.hid (by rw [HM1.out]; unfold withinV; rw [if_neg g1, if_neg (fun k => g2 k.1)])
      go_wp2_with fail
      go_meet
      exact ⟨by rw [HX.out], rfl⟩
  case rest =>
  obtain ⟨rfl, rfl⟩ := hcut
  clear HM1
  go_upto_region 13 with fail
  go_cut [67] (fun s67 wx => s67 = .bool (st && !fi) ∧ wc = wx)
  case first =>
    cases st
    · go_wp2_with fail
      go_meet
      exact ⟨rfl, rfl⟩
    · go_wp2_with fail
      refine (hf _).mono ?_
      rintro e w' ⟨rfl, rfl⟩
      go_wp2_with fail
      go_meet
      exact ⟨by simp, rfl⟩
  case rest =>
  obtain ⟨rfl, rfl⟩ := hcut
  clear hf
  obtain ⟨cc, hcc⟩ : ∃ cc, cc = (st && !fi) := ⟨_, rfl⟩
  rw [← hcc]
  have HCC := Lib.hid hcc
  clear hcc
  go_upto_if 67 with fail
  go_cut [14] (fun s14 wx => s14 = .int .i64 n ∧ wc = wx)
  case first =>
    cases cc
    · have HX : Hid (n = m1) := Lib.hid (by
        rw [HO.out]
        unfold ontoV
        rw [if_pos]
        have := HCC.out
        cases st
        · exact .inl rfl
        · right
          rw [HFI.out]
          cases fi
          · cases this
          · rfl)
      go_wp2_with fail
      go_meet
      exact ⟨by rw [HX.out], rfl⟩
    · have hst : st = true ∧ fi = false := by
        have := HCC.out
        cases st <;> cases fi <;> simp at this ⊢
      obtain ⟨rfl, rfl⟩ := hst
      obtain ⟨p1, p2⟩ := HPOS.out rfl
      have ho := over_bd m1 ba by' p1
      have hdv : downV m1 ba by' = m1 - over m1 ba by' := downV_yes m1 ba by' p1 (by omega)
      rw [hdv] at hd
      generalize downB m1 ba by' = db at *
      obtain ⟨d, hdd⟩ : ∃ d, d = m1 - over m1 ba by' := ⟨_, rfl⟩
      rw [← hdd] at hd
      have d1 : d ≤ m1 := by omega
      have d2 : m1 < d + by' := by omega
      have HR1 : Hid (n = ontoT lo hg by' m1 d) := Lib.hid (by
        rw [HO.out]
        unfold ontoV
        rw [if_neg (by rw [HFI.out]; simp), ← hdd]; rfl)
      clear HO HPOS HFI hdd ho hdv
      unfold ontoT at HR1
      by_cases c1 : d + by' ≤ hg
      · by_cases c2 : d + by' - m1 ≤ m1 - d
        · have HX : Hid (n = d + by') := Lib.hid (by rw [HR1.out, if_pos ⟨c1, Or.inl c2⟩])
          go_wp2_with fail
          refine (hd _).mono ?_
          rintro e w' ⟨rfl, rfl⟩
          go_wp2_with fail
          go_meet
          exact ⟨by rw [HX.out], rfl⟩
        · by_cases c3 : d < lo
          · have HX : Hid (n = d + by') := Lib.hid (by rw [HR1.out, if_pos ⟨c1, Or.inr c3⟩])
            go_wp2_with fail
            refine (hd _).mono ?_
            rintro e w' ⟨rfl, rfl⟩
            go_wp2_with fail
            go_meet
            exact ⟨by rw [HX.out], rfl⟩
          · have HX : Hid (n = d) := Lib.hid (by rw [HR1.out, if_neg (fun k => k.2.elim c2 c3), if_pos (by omega)])
            go_wp2_with fail
            refine (hd _).mono ?_
            rintro e w' ⟨rfl, rfl⟩
            go_wp2_with fail
            go_meet
            exact ⟨by rw [HX.out], rfl⟩
      · by_cases c3 : d < lo
        · have HX : Hid (n = m1) := Lib.hid (by rw [HR1.out, if_neg (fun k => c1 k.1), if_neg (by omega)])
          go_wp2_with fail
          refine (hd _).mono ?_
          rintro e w' ⟨rfl, rfl⟩
          go_wp2_with fail
          go_meet
          exact ⟨by rw [HX.out], rfl⟩
        · have HX : Hid (n = d) := Lib.hid (by rw [HR1.out, if_neg (fun k => c1 k.1), if_pos (by omega)])
          go_wp2_with fail
          refine (hd _).mono ?_
          rintro e w' ⟨rfl, rfl⟩
          go_wp2_with fail
          go_meet
          exact ⟨by rw [HX.out], rfl⟩
  case rest =>
  obtain ⟨rfl, rfl⟩ := hcut
  clear HO HPOS HFI HCC hd
  cases ok
  · have HX : Hid (r = t) := Lib.hid (by rw [HR.out, if_neg (fun k => by cases k.1)])
    go_wp2_with fail
    refine (h7 _).mono ?_
    rintro e w7 ⟨rfl, c7⟩
    go_wp2_with fail
    go_ret
    exact ⟨sret_s HX.out.symm, below_trans hB6 c7⟩
  · by_cases c : n = was
    · have HX : Hid (r = s) := Lib.hid (by rw [HR.out, if_pos ⟨by first | rfl | trivial, c⟩])
      have t1 : (n == was) = true := by simpa using c
      clear c
      go_wp2_with fail
      go_ret
      exact ⟨sret_s HX.out.symm, hB6⟩
    · have HX : Hid (r = t) := Lib.hid (by rw [HR.out, if_neg (fun k => c k.2)])
      have t1 : (n == was) = false := by simpa using c
      clear c
      go_wp2_with fail
      refine (h7 _).mono ?_
      rintro e w7 ⟨rfl, c7⟩
      go_wp2_with fail
      go_ret
      exact ⟨sret_s HX.out.symm, below_trans hB6 c7⟩
end Go.Proofs.YtbhdoocajfkfiaaGreatDoor.cln
