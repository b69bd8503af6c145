/- The contract of link.Host. -/
import Derived.Test.YtoghjhaagallkaaGreatDoorSix
import Derived.Test.YtoghjhaagallkaaGreatDoorFour
import Derived.Test.YtoghjhaagallkaaGreatDoorValid
namespace Go.Proofs.YtoghjhaagallkaaGreatDoor.link
open Go.ChangeShapes Go.WideShapes Go.ChangeAt Go.RowKit Go.Lib Go.Proofs.YtoghjhaagallkaaGreatDoor.str

def hostC (c : UInt8) : Bool := decide (128 ≤ c.toNat) || plainB c || (c == 45) || (c == 95)
def labOk (x : List UInt8) : Bool := !(x == []) && x.all hostC
def lastN (ls : List (List UInt8)) : Nat := if 1 < ls.length ∧ ls[ls.length - 1]? = some [] then ls.length - 1 else ls.length
def tailOk (ls ms : List (List UInt8)) : Bool := !digsB (ms.getD (ms.length - 1) []) || (decide (ls.length = ms.length) && fourS ls)
def hostL (ls : List (List UInt8)) : Bool := (ls.take (lastN ls)).all labOk && tailOk ls (ls.take (lastN ls))
def brackS (t : List UInt8) : Bool := (t.getLast? == some 93) && sixS t.dropLast
def hostS (s : List UInt8) : Bool := if s.head? = some 91 then brackS s.tail else validD s && hostL (spl 46 [] s)

theorem cutpre_any (l : List UInt8) (c : UInt8) (w : World) :
    Calls Tryz.prog 11 #[.string ⟨l.toArray⟩, .string ⟨#[c]⟩] w fun e w' => e = .returned (.tuple #[.string ⟨(if l.head? = some c then l.tail else l).toArray⟩, .bool (l.head? == some c)]) ∧ w = w' := by
  refine (Tryz.strings_CutPrefix ⟨l.toArray⟩ ⟨#[c]⟩ w).mono ?_
  rintro e w' ⟨rfl, rfl⟩
  refine ⟨?_, rfl⟩
  have e1 : (⟨l.toArray⟩ : ByteArray).data.toList = l := rfl
  have e2 : (⟨#[c]⟩ : ByteArray).data.toList = [c] := rfl
  rw [e1, e2]
  have h : Lib.hasPrefix l [c] = (l.head? == some c) := by
    unfold Lib.hasPrefix
    cases l with
    | nil => rfl
    | cons a r => simp [List.isPrefixOf, Bool.beq_comm]
  unfold Lib.trimPrefix
  rw [h]
  by_cases g : l.head? = some c
  · rw [if_pos g, if_pos (by simpa using g)]; simp
  · rw [if_neg g, if_neg (by simpa using g)]

theorem cutsuf_any (l : List UInt8) (c : UInt8) (hl : l.length ≤ 1000000000) (w : World) :
    Calls Tryz.prog 33 #[.string ⟨l.toArray⟩, .string ⟨#[c]⟩] w fun e w' => e = .returned (.tuple #[.string ⟨(if l.getLast? = some c then l.dropLast else l).toArray⟩, .bool (l.getLast? == some c)]) ∧ w = w' := by
  refine (Tryz.strings_CutSuffix ⟨l.toArray⟩ ⟨#[c]⟩ w (by rw [bsize]; omega)).mono ?_
  rintro e w' ⟨rfl, rfl⟩
  refine ⟨?_, rfl⟩
  have e1 : (⟨l.toArray⟩ : ByteArray).data.toList = l := rfl
  have e2 : (⟨#[c]⟩ : ByteArray).data.toList = [c] := rfl
  rw [e1, e2]
  have h : Lib.hasSuffix l [c] = (l.getLast? == some c) := by
    unfold Lib.hasSuffix List.isSuffixOf
    rw [← List.head?_reverse]
    cases l.reverse with
    | nil => rfl
    | cons a r => simp [List.isPrefixOf, Bool.beq_comm]
  unfold Lib.trimSuffix
  rw [h]
  by_cases g : l.getLast? = some c
  · rw [if_pos g, if_pos (by simpa using g)]; simp [List.dropLast_eq_take]
  · rw [if_neg g, if_neg (by simpa using g)]

theorem StrAt.take {w : World} {b : Nat} {ls : List (List UInt8)} (h : StrAt w b ls) (n : Nat) : StrAt w b (ls.take n) := by
  intro j hj
  have hj2 : j < ls.length := by rw [List.length_take] at hj; omega
  rw [h j hj2]
  simp

theorem hostC_ways (c : UInt8) : (128 ≤ c.toNat ∧ hostC c = true) ∨ (c.toNat < 128 ∧ plainB c = true ∧ hostC c = true) ∨ (c.toNat < 128 ∧ plainB c = false ∧ c = 45 ∧ hostC c = true) ∨ (c.toNat < 128 ∧ plainB c = false ∧ c = 95 ∧ hostC c = true) ∨ (c.toNat < 128 ∧ plainB c = false ∧ c ≠ 45 ∧ c ≠ 95 ∧ hostC c = false) := by
  unfold hostC
  by_cases h : 128 ≤ c.toNat
  · left; refine ⟨h, ?_⟩; rw [decide_eq_true h]; rfl
  · rw [decide_eq_false h]
    right
    cases hp : plainB c
    · right
      by_cases h1 : c = 45
      · left; exact ⟨by omega, rfl, h1, by simp [h1]⟩
      · right
        by_cases h2 : c = 95
        · left; exact ⟨by omega, rfl, h2, by simp [h2]⟩
        · right; exact ⟨by omega, rfl, h1, h2, by simp [h1, h2]⟩
    · left; exact ⟨by omega, rfl, rfl⟩

theorem lastN_ways (ls : List (List UInt8)) (hpos : 0 < ls.length) : (ls.length = 1 ∧ lastN ls = ls.length) ∨ (∃ y, 1 < ls.length ∧ ls[ls.length - 1]? = some y ∧ ((y = [] ∧ lastN ls = ls.length - 1) ∨ (y ≠ [] ∧ lastN ls = ls.length))) := by
  unfold lastN
  by_cases h : ls.length = 1
  · left; refine ⟨h, ?_⟩; rw [if_neg (by omega)]
  · right
    have hlt : ls.length - 1 < ls.length := by omega
    refine ⟨ls[ls.length - 1], by omega, by rw [List.getElem?_eq_getElem], ?_⟩
    by_cases g : ls[ls.length - 1] = []
    · left; refine ⟨g, ?_⟩; rw [if_pos ⟨by omega, by rw [List.getElem?_eq_getElem hlt, g]⟩]
    · right; refine ⟨g, ?_⟩; rw [if_neg]; rintro ⟨_, h2⟩; rw [List.getElem?_eq_getElem hlt] at h2; exact g (Option.some.inj h2)

theorem lastN_bounds (ls : List (List UInt8)) (hpos : 0 < ls.length) : 0 < lastN ls ∧ lastN ls ≤ ls.length := by
  unfold lastN; split <;> omega

set_option maxHeartbeats 3200000 in
set_option maxRecDepth 100000 in
theorem host_brack (t : List UInt8) (hl : t.length ≤ 1000000) (w : World) (hG : G w) :
    Calls Tryz.prog 14 #[.string ⟨(91 :: t).toArray⟩] w fun e w' => e = .returned (.bool (brackS t)) ∧ Below w.heap.size w w' := by
  obtain ⟨v, hv⟩ : ∃ v, v = brackS t := ⟨_, rfl⟩
  rw [← hv]
  unfold brackS at hv
  have hp := cutpre_any (91 :: t) 91 w
  have e1 : (if (91 :: t).head? = some 91 then (91 :: t).tail else (91 :: t)) = t := rfl
  have e2 : ((91 :: t).head? == some (91 : UInt8)) = true := rfl
  rw [e1, e2] at hp
  have hs := cutsuf_any t 93 (by omega) w
  have h6 := six_any t.dropLast (by simp; omega) w hG
  obtain ⟨l, hlx⟩ : ∃ l, l = 91 :: t := ⟨_, rfl⟩
  rw [← hlx] at hp ⊢
  clear e1 e2 hlx
  by_cases g : t.getLast? = some 93
  · have eb : (t.getLast? == some 93) = true := by simpa using g
    rw [eb, Bool.true_and] at hv
    rw [if_pos g, eb] at hs
    clear eb g
    generalize t.dropLast = d at *
    generalize sixS d = q at *
    have HV := Lib.hid hv
    clear hv
    go_enter Tryz.func14, Tryz.ntmps14
    go_wp2_with fail
    refine hp.mono ?_
    rintro e w' ⟨rfl, rfl⟩
    go_wp2_with fail
    refine hs.mono ?_
    rintro e w' ⟨rfl, rfl⟩
    go_wp2_with fail
    refine h6.mono ?_
    rintro e w' ⟨rfl, hb⟩
    go_wp2_with fail
    go_ret
    exact ⟨ret_bool HV.out.symm, hb⟩
  · have eb : (t.getLast? == some 93) = false := by simpa using g
    rw [eb, Bool.false_and] at hv
    rw [if_neg g, eb] at hs
    clear eb g
    have HV := Lib.hid hv
    clear hv h6
    go_enter Tryz.func14, Tryz.ntmps14
    go_wp2_with fail
    refine hp.mono ?_
    rintro e w' ⟨rfl, rfl⟩
    go_wp2_with fail
    refine hs.mono ?_
    rintro e w' ⟨rfl, rfl⟩
    go_wp2_with fail
    go_ret
    exact ⟨ret_bool HV.out.symm, Below.refl _ _⟩
end Go.Proofs.YtoghjhaagallkaaGreatDoor.link
