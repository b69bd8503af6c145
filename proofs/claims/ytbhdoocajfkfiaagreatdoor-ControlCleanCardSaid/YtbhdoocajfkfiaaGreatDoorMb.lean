/- Moments by places in the text, as the reference reads them; that is what is read from the front: plain. No program in sight. A time's text by places, and from the front; a day and a time: plain. No program in sight. What is shown is read back; what is read is shown; a day and a time: plain. No program in sight. -/
import Derived.Test.YtbhdoocajfkfiaaGreatDoorMa
namespace Go.Proofs.YtbhdoocajfkfiaaGreatDoor.mom
open Go.Lib Go.Proofs.YtbhdoocajfkfiaaGreatDoor.num Go.Proofs.YtbhdoocajfkfiaaGreatDoor.cal

def digR (l : List UInt8) (k : Nat) : Bool := match l[k]? with | some c => isDig c | none => false
def dvR (l : List UInt8) (k : Nat) : Nat := match l[k]? with | some c => dv c | none => 0
def twoR (l : List UInt8) (k : Nat) : Int := if digR l k && digR l (k + 1) then ((dvR l k * 10 + dvR l (k + 1) : Nat) : Int) else -1
def yearR (l : List UInt8) : Nat × Nat := if yOk (cnt l) (val (l.take (cnt l))) then (val (l.take (cnt l)), cnt l) else (0, 0)
def signR (l : List UInt8) (k : Nat) (c : UInt8) : Bool := l[k]? == some c
def dOkI (y m d : Int) : Prop := 1 ≤ y ∧ y ≤ 275760 ∧ 1 ≤ m ∧ m ≤ 12 ∧ 1 ≤ d ∧ d ≤ mlen y m
instance (y m d : Int) : Decidable (dOkI y m d) := by unfold dOkI; infer_instance
def wOkI (y w : Int) : Prop := 1 ≤ y ∧ y ≤ 275760 ∧ 1 ≤ w ∧ w ≤ weeksW y
instance (y w : Int) : Decidable (wOkI y w) := by unfold wOkI; infer_instance
def dayR (l : List UInt8) : Option Int :=
  if (yearR l).2 ≠ 0 ∧ l.length = (yearR l).2 + 6 ∧ signR l (yearR l).2 45 = true ∧ signR l ((yearR l).2 + 3) 45 = true then
    (if dOkI (yearR l).1 (twoR l ((yearR l).2 + 1)) (twoR l ((yearR l).2 + 4)) then some (numD (yearR l).1 (twoR l ((yearR l).2 + 1)) (twoR l ((yearR l).2 + 4)) * 86400000) else none)
  else none

theorem digR_at (p r : List UInt8) (k : Nat) : digR (p ++ r) (p.length + k) = digR r k := by
  unfold digR; rw [List.getElem?_append_right (by omega), Nat.add_sub_cancel_left]
theorem dvR_at (p r : List UInt8) (k : Nat) : dvR (p ++ r) (p.length + k) = dvR r k := by
  unfold dvR; rw [List.getElem?_append_right (by omega), Nat.add_sub_cancel_left]
theorem twoR_at (p r : List UInt8) (k : Nat) : twoR (p ++ r) (p.length + k) = twoR r k := by
  unfold twoR; rw [Nat.add_assoc, digR_at, digR_at, dvR_at, dvR_at]
theorem signR_at (p r : List UInt8) (k : Nat) (c : UInt8) : signR (p ++ r) (p.length + k) c = signR r k c := by
  unfold signR; rw [List.getElem?_append_right (by omega), Nat.add_sub_cancel_left]

theorem yearR_none (l : List UInt8) (h : yearP l = none) : yearR l = (0, 0) := by
  unfold yearP at h
  unfold yearR
  split at h
  · cases h
  · rename_i g; rw [if_neg g]
theorem yearR_some (l : List UInt8) (y : Nat) (r : List UInt8) (h : yearP l = some (y, r)) : ∃ ds, l = ds ++ r ∧ yearR l = (y, ds.length) ∧ 4 ≤ ds.length ∧ 1 ≤ y ∧ y ≤ 275760 := by
  obtain ⟨ds, h1, h2, h3, h4, h5⟩ := yearP_form l y r h
  refine ⟨ds, h1, ?_, ?_⟩
  · unfold yearP at h
    unfold yearR
    split at h
    · rename_i g
      rw [if_pos g]
      cases h
      rw [h5]
    · cases h
  · unfold yOk at h3
    simp only [Bool.and_eq_true, decide_eq_true_eq] at h3
    omega
theorem twoR_some (a b : UInt8) (r : List UInt8) (ha : isDig a = true) (hb : isDig b = true) : twoR (a :: b :: r) 0 = ((dv a * 10 + dv b : Nat) : Int) := by
  unfold twoR digR dvR
  simp [ha, hb]
theorem twoR_two (l : List UInt8) : (two l = none ∧ twoR l 0 = -1) ∨ ∃ n r, two l = some (n, r) ∧ twoR l 0 = n ∧ l.length = r.length + 2 ∧ n < 100 := by
  match l with
  | [] => left; exact ⟨rfl, rfl⟩
  | [a] => left; exact ⟨rfl, by simp [twoR, digR]⟩
  | a :: b :: r =>
    by_cases h : (isDig a && isDig b) = true
    · right
      rw [Bool.and_eq_true] at h
      exact ⟨_, r, two_of a b r h.1 h.2, twoR_some a b r h.1 h.2, rfl, two_lt _ _ _ (two_of a b r h.1 h.2)⟩
    · left
      have e : two (a :: b :: r) = if (isDig a && isDig b) = true then some (dv a * 10 + dv b, r) else none := rfl
      refine ⟨by rw [e, if_neg h], ?_⟩
      unfold twoR digR
      simp only [List.getElem?_cons_zero, List.getElem?_cons_succ, Nat.zero_add]
      rw [if_neg h]

theorem dOk_iff (y m d : Nat) (h1 : 1 ≤ y) (h2 : y ≤ 275760) : dOk y m d = true ↔ dOkI y m d := by
  unfold dOk dOkI
  simp only [Bool.and_eq_true, decide_eq_true_eq]
  omega

/-- behind the year: sign, two digits, sign, two digits, and no more -/
theorem tail6 (r : List UInt8) (h : r.length = 6) : ∃ a b c d e f, r = [a, b, c, d, e, f] := by
  match r, h with
  | [a, b, c, d, e, f], _ => exact ⟨a, b, c, d, e, f, rfl⟩

theorem dayR_eq (l : List UInt8) : dayR l = whole (dateP l) := by
  cases hy : yearP l with
  | none =>
    have e : dateP l = none := by unfold dateP; rw [hy]
    unfold dayR
    rw [yearR_none l hy, e, if_neg (fun g => g.1 rfl)]; rfl
  | some yr =>
    obtain ⟨y, r⟩ := yr
    obtain ⟨ds, hl, hR, h4, hy1, hy2⟩ := yearR_some l y r hy
    unfold dayR
    rw [hR]
    dsimp only
    have z0 : ds.length ≠ 0 := by omega
    have hlen : l.length = ds.length + r.length := by rw [hl, List.length_append]
    have es0 : signR l ds.length 45 = signR r 0 45 := by rw [hl]; exact signR_at ds r 0 45
    have es3 : signR l (ds.length + 3) 45 = signR r 3 45 := by rw [hl]; exact signR_at ds r 3 45
    have et1 : twoR l (ds.length + 1) = twoR r 1 := by rw [hl]; exact twoR_at ds r 1
    have et4 : twoR l (ds.length + 4) = twoR r 4 := by rw [hl]; exact twoR_at ds r 4
    rw [es0, es3, et1, et4]
    by_cases h6 : r.length = 6
    · obtain ⟨a, b, c, d, e, f, rfl⟩ := tail6 r h6
      have e1 : twoR [a, b, c, d, e, f] 1 = twoR [b, c, d, e, f] 0 := rfl
      have e4 : twoR [a, b, c, d, e, f] 4 = twoR [e, f] 0 := rfl
      rw [e1, e4]
      have hlt : l.length = ds.length + 6 := by rw [hlen]; rfl
      by_cases ha : a = 45
      · by_cases hd : d = 45
        · subst ha
          subst hd
          rw [if_pos ⟨z0, hlt, rfl, rfl⟩]
          rcases twoR_two [b, c, 45, e, f] with ⟨g1, g2⟩ | ⟨m, q, g1, g2, g3, g4⟩
          · have : dateP l = none := by unfold dateP; rw [hy]; simp only [sgn_of, g1]
            rw [this, if_neg (by rw [g2]; unfold dOkI; omega)]; rfl
          · have hq : q = [45, e, f] := by
              obtain ⟨x, z, k1, _, _, _⟩ := two_form _ _ _ g1
              have := List.cons.inj k1
              have := List.cons.inj this.2
              exact this.2.symm
            subst hq
            rcases twoR_two [e, f] with ⟨k1, k2⟩ | ⟨dd, q, k1, k2, k3, k4⟩
            · have : dateP l = none := by unfold dateP; rw [hy]; simp only [sgn_of, g1, k1]
              rw [this, if_neg (by rw [k2]; unfold dOkI; omega)]; rfl
            · have hq : q = [] := by
                simp at k3; exact k3
              subst hq
              rw [g2, k2]
              by_cases hok : dOk y m dd = true
              · rw [if_pos ((dOk_iff y m dd hy1 hy2).1 hok), dateP_of l y m dd _ [b, c, 45, e, f] _ [e, f] [] hy rfl g1 rfl k1 hok]
                rfl
              · have : dateP l = none := by unfold dateP; rw [hy]; simp only [sgn_of, g1, k1]; rw [if_neg hok]
                rw [this, if_neg (fun g => hok ((dOk_iff y m dd hy1 hy2).2 g))]; rfl
        · have : whole (dateP l) = none := by
            cases hh : dateP l with
            | none => rfl
            | some vr =>
              exfalso
              obtain ⟨v, rr⟩ := vr
              obtain ⟨y', m, d', r1, r2, r3, r4, k1, k2, k3, k4, k5, k6, k7⟩ := dateP_form l v rr hh
              rw [hy] at k1
              cases k1
              obtain ⟨x, z, q1, _⟩ := two_form r2 m r3 k3
              rw [q1, k4] at k2
              simp at k2
              exact hd k2.2.2.2.1
          rw [this, if_neg]
          rintro ⟨_, _, _, g⟩
          apply hd
          simpa [signR] using g
      · have : dateP l = none := by
          unfold dateP; rw [hy]
          simp only [sgn, if_neg ha]
        rw [this, if_neg]
        · rfl
        · rintro ⟨_, _, g, _⟩
          apply ha
          simpa [signR] using g
    · have : whole (dateP l) = none := by
        cases hh : dateP l with
        | none => rfl
        | some vr =>
          obtain ⟨v, rr⟩ := vr
          cases rr with
          | cons c t => rfl
          | nil =>
            exfalso
            obtain ⟨y', m, d', r1, r2, r3, r4, k1, k2, k3, k4, k5, k6, k7⟩ := dateP_form l v [] hh
            rw [hy] at k1
            cases k1
            obtain ⟨x, z, q1, _⟩ := two_form r2 m r3 k3
            obtain ⟨x', z', q2, _⟩ := two_form r4 d' [] k5
            rw [k2, q1, k4, q2] at h6
            exact h6 rfl
      rw [this, if_neg]
      rintro ⟨_, g, _⟩
      exact h6 (by omega)

def monthR (l : List UInt8) : Option Int :=
  if (yearR l).2 > 0 ∧ l.length = (yearR l).2 + 3 ∧ signR l (yearR l).2 45 = true ∧ 1 ≤ twoR l ((yearR l).2 + 1) ∧ twoR l ((yearR l).2 + 1) ≤ 12 then some ((((yearR l).1 : Int) - 1970) * 12 + twoR l ((yearR l).2 + 1) - 1) else none
theorem monthR_eq (l : List UInt8) : monthR l = whole (monthP l) := by
  cases hy : yearP l with
  | none =>
    have e : monthP l = none := by unfold monthP; rw [hy]
    unfold monthR
    rw [yearR_none l hy, e, if_neg (fun g => by have := g.1; simp at this)]; rfl
  | some yr =>
    obtain ⟨y, r⟩ := yr
    obtain ⟨ds, hl, hR, h4, hy1, hy2⟩ := yearR_some l y r hy
    unfold monthR
    rw [hR]
    dsimp only
    have hlen : l.length = ds.length + r.length := by rw [hl, List.length_append]
    have es0 : signR l ds.length 45 = signR r 0 45 := by rw [hl]; exact signR_at ds r 0 45
    have et1 : twoR l (ds.length + 1) = twoR r 1 := by rw [hl]; exact twoR_at ds r 1
    rw [es0, et1]
    cases r with
    | nil =>
      have e : monthP l = none := by unfold monthP; rw [hy]; rfl
      rw [e, if_neg (fun g => by have := g.2.1; simp at hlen; omega)]; rfl
    | cons a r =>
      have e1 : twoR (a :: r) 1 = twoR r 0 := by
        show twoR ([a] ++ r) ([a].length + 0) = _
        rw [twoR_at]
      rw [e1]
      by_cases ha : a = 45
      · subst ha
        rcases twoR_two r with ⟨g1, g2⟩ | ⟨m, q, g1, g2, g3, g4⟩
        · have e : monthP l = none := by unfold monthP; rw [hy]; simp only [sgn_of, g1]
          rw [e, if_neg (fun g => by have := g.2.2.2.1; omega)]; rfl
        · have e : monthP l = if (decide (1 ≤ m) && decide (m ≤ 12)) = true then some (12 * ((y : Int) - 1970) + m - 1, q) else none := by
            unfold monthP; rw [hy]; simp only [sgn_of, g1]
          rw [e, g2]
          simp only [List.length_cons] at hlen
          have hb : (decide (1 ≤ m) && decide (m ≤ 12)) = true ↔ (1 ≤ m ∧ m ≤ 12) := by simp
          cases q with
          | nil =>
            by_cases hm : 1 ≤ m ∧ m ≤ 12
            · rw [if_pos ⟨by omega, by simp at g3; omega, rfl, by omega, by omega⟩, if_pos (hb.2 hm)]
              show some _ = some _
              congr 1; omega
            · rw [if_neg (fun g => hm (by have := g.2.2.2; omega)), if_neg (fun g => hm (hb.1 g))]; rfl
          | cons c t =>
            rw [if_neg (fun g => by have := g.2.1; simp at g3; omega)]
            by_cases hm : 1 ≤ m ∧ m ≤ 12
            · rw [if_pos (hb.2 hm)]; rfl
            · rw [if_neg (fun g => hm (hb.1 g))]; rfl
      · have e : monthP l = none := by unfold monthP; rw [hy]; simp only [sgn, if_neg ha]
        rw [e, if_neg (fun g => ha (by simpa [signR] using g.2.2.1))]; rfl

def weekR (l : List UInt8) : Option Int :=
  if (yearR l).2 ≠ 0 ∧ l.length = (yearR l).2 + 4 ∧ signR l (yearR l).2 45 = true ∧ signR l ((yearR l).2 + 1) 87 = true then
    (if wOkI (yearR l).1 (twoR l ((yearR l).2 + 2)) then some ((firstW (yearR l).1 + 7 * (twoR l ((yearR l).2 + 2) - 1)) * 86400000) else none)
  else none
theorem wOk_iff (y w : Nat) (h1 : 1 ≤ y) (h2 : y ≤ 275760) : wOk y w = true ↔ wOkI y w := by
  unfold wOk wOkI
  simp only [Bool.and_eq_true, decide_eq_true_eq]
  omega
theorem weekR_eq (l : List UInt8) : weekR l = whole (weekP l) := by
  cases hy : yearP l with
  | none =>
    have e : weekP l = none := by unfold weekP; rw [hy]
    unfold weekR
    rw [yearR_none l hy, e, if_neg (fun g => g.1 rfl)]; rfl
  | some yr =>
    obtain ⟨y, r⟩ := yr
    obtain ⟨ds, hl, hR, h4, hy1, hy2⟩ := yearR_some l y r hy
    unfold weekR
    rw [hR]
    dsimp only
    have hlen : l.length = ds.length + r.length := by rw [hl, List.length_append]
    have es0 : signR l ds.length 45 = signR r 0 45 := by rw [hl]; exact signR_at ds r 0 45
    have es1 : signR l (ds.length + 1) 87 = signR r 1 87 := by rw [hl]; exact signR_at ds r 1 87
    have et1 : twoR l (ds.length + 2) = twoR r 2 := by rw [hl]; exact twoR_at ds r 2
    rw [es0, es1, et1]
    match r with
    | [] =>
      have e : weekP l = none := by unfold weekP; rw [hy]; rfl
      rw [e, if_neg (fun g => by have := g.2.1; simp at hlen; omega)]; rfl
    | [a] =>
      have e : weekP l = none := by
        unfold weekP; rw [hy]
        by_cases ha : a = 45
        · subst ha; simp only [sgn_of]; rfl
        · simp only [sgn, if_neg ha]
      rw [e, if_neg (fun g => by have := g.2.1; simp at hlen; omega)]; rfl
    | a :: b :: r =>
      have e1 : twoR (a :: b :: r) 2 = twoR r 0 := by
        show twoR ([a, b] ++ r) ([a, b].length + 0) = _
        rw [twoR_at]
      rw [e1]
      by_cases ha : a = 45
      · by_cases hb : b = 87
        · subst ha
          subst hb
          rcases twoR_two r with ⟨g1, g2⟩ | ⟨m, q, g1, g2, g3, g4⟩
          · have e : weekP l = none := by unfold weekP; rw [hy]; simp only [sgn_of, g1]
            rw [e]
            show _ = none
            by_cases hc : ds.length ≠ 0 ∧ l.length = ds.length + 4 ∧ signR (45 :: 87 :: r) 0 45 = true ∧ signR (45 :: 87 :: r) 1 87 = true
            · rw [if_pos hc, if_neg (by rw [g2]; unfold wOkI; omega)]
            · rw [if_neg hc]
          · have e : weekP l = if wOk y m = true then some ((firstW y + 7 * ((m : Int) - 1)) * 86400000, q) else none := by
              unfold weekP; rw [hy]; simp only [sgn_of, g1]
            rw [e, g2]
            simp only [List.length_cons] at hlen
            cases q with
            | nil =>
              rw [if_pos ⟨by omega, by simp at g3; omega, rfl, rfl⟩]
              by_cases hm : wOk y m = true
              · rw [if_pos hm, if_pos ((wOk_iff y m hy1 hy2).1 hm)]; rfl
              · rw [if_neg hm, if_neg (fun g => hm ((wOk_iff y m hy1 hy2).2 g))]; rfl
            | cons c t =>
              rw [if_neg (fun g => by have := g.2.1; simp at g3; omega)]
              by_cases hm : wOk y m = true
              · rw [if_pos hm]; rfl
              · rw [if_neg hm]; rfl
        · have e : weekP l = none := by unfold weekP; rw [hy]; subst ha; simp only [sgn_of]; simp only [sgn, if_neg hb]
          rw [e, if_neg (fun g => hb (by simpa [signR] using g.2.2.2))]; rfl
      · have e : weekP l = none := by unfold weekP; rw [hy]; simp only [sgn, if_neg ha]
        rw [e, if_neg (fun g => ha (by simpa [signR] using g.2.2.1))]; rfl
end Go.Proofs.YtbhdoocajfkfiaaGreatDoor.mom

namespace Go.Proofs.YtbhdoocajfkfiaaGreatDoor.mom
open Go.Lib Go.Proofs.YtbhdoocajfkfiaaGreatDoor.num Go.Proofs.YtbhdoocajfkfiaaGreatDoor.cal

/-- behind the minutes -/
def clockT (n : Int) (t : List UInt8) : Option Int :=
  if t.length = 0 then some n
  else if signR t 0 58 = false ∨ twoR t 1 < 0 ∨ 59 < twoR t 1 then none
  else if t.length = 3 then some (n + twoR t 1 * 1000)
  else if signR t 3 46 = false ∨ t.length < 5 ∨ 7 < t.length then none
  else if allDig (t.drop 4) = true then some (n + twoR t 1 * 1000 + ((val (t.drop 4) * 10 ^ (7 - t.length) : Nat) : Int)) else none
def clockR (l : List UInt8) : Option Int :=
  if l.length < 5 ∨ signR l 2 58 = false then none
  else if twoR l 0 < 0 ∨ 23 < twoR l 0 ∨ twoR l 3 < 0 ∨ 59 < twoR l 3 then none
  else clockT (twoR l 0 * 3600000 + twoR l 3 * 60000) (l.drop 5)

theorem sgn_no (c d : UInt8) (t : List UInt8) (h : ¬ d = c) : sgn c (d :: t) = none := by simp only [sgn, if_neg h]

theorem thou_whole (p : List UInt8) (n : Int) : (match thou p with | none => none | some (q, r) => whole (some (n + (q : Int), r))) = if 1 ≤ p.length ∧ p.length ≤ 3 ∧ allDig p = true then some (n + ((val p * 10 ^ (3 - p.length) : Nat) : Int)) else none := by
  have hle := cnt_le p
  have hall := cnt_all p
  by_cases h : 1 ≤ p.length ∧ p.length ≤ 3 ∧ allDig p = true
  · obtain ⟨h1, h2, h3⟩ := h
    have hc := hall.2 h3
    have e : thou p = some (val p * 10 ^ (3 - p.length), []) := by
      unfold thou
      simp only []
      rw [hc, Nat.min_eq_left h2, if_neg (by omega), List.take_length, List.drop_length]
    rw [e, if_pos ⟨h1, h2, h3⟩]
    rfl
  · rw [if_neg h]
    unfold thou
    simp only []
    by_cases h0 : min (cnt p) 3 = 0
    · rw [if_pos h0]
    · rw [if_neg h0]
      have : p.drop (min (cnt p) 3) ≠ [] := by
        intro g
        have g2 : p.length ≤ min (cnt p) 3 := List.drop_eq_nil_iff.1 g
        apply h
        exact ⟨by omega, by omega, hall.1 (by omega)⟩
      cases hd : p.drop (min (cnt p) 3) with
      | nil => exact absurd hd this
      | cons c t => rfl

theorem clockT_eq (n : Nat) (t : List UInt8) : clockT n t = whole (minT n t) := by
  unfold minT
  cases t with
  | nil => rfl
  | cons a r =>
    by_cases ha : a = 58
    · subst ha
      rw [if_pos (show (58 :: r).head? = some 58 from rfl)]
      show _ = whole (secP n r)
      unfold clockT secP
      rw [if_neg (by simp)]
      have e1 : twoR (58 :: r) 1 = twoR r 0 := by
        exact twoR_at [58] r 0
      have e0 : signR (58 :: r) 0 58 = true := rfl
      rw [e1, e0]
      rcases twoR_two r with ⟨g1, g2⟩ | ⟨s, q, g1, g2, g3, g4⟩
      · rw [if_pos (by right; left; omega), g1]; rfl
      · rw [g1, g2]
        dsimp only
        by_cases hs : s < 60
        · rw [if_neg (by simp; omega), if_pos hs]
          have hl : (58 :: r).length = q.length + 3 := by simp; omega
          rw [hl]
          obtain ⟨x, z, hr, _⟩ := two_form r s q g1
          subst hr
          unfold secT
          cases q with
          | nil => rw [if_pos (by simp), if_neg (by simp)]; show some _ = some _; congr 1; omega
          | cons c p =>
            rw [if_neg (by simp)]
            have e3 : signR (58 :: x :: z :: c :: p) 3 46 = (c == 46) := by
              unfold signR
              simp
            rw [e3]
            by_cases hc : c = 46
            · subst hc
              have := thou_whole p ((n + 1000 * s : Nat) : Int)
              have e4 : (58 :: x :: z :: 46 :: p).drop 4 = p := rfl
              have e5 : whole (match thou p with | none => none | some (p, r2) => some (((n + 1000 * s + p : Nat) : Int), r2)) = (match thou p with | none => none | some (q, r) => whole (some (((n + 1000 * s : Nat) : Int) + (q : Int), r))) := by
                cases thou p with
                | none => rfl
                | some v => obtain ⟨a, b⟩ := v; rfl
              rw [if_pos (show (46 :: p).head? = some 46 from rfl)]
              show _ = whole (match thou p with | none => none | some (p, r2) => some (((n + 1000 * s + p : Nat) : Int), r2))
              rw [e4, e5, this]
              have e6 : 7 - ((46 :: p).length + 3) = 3 - p.length := by simp only [List.length_cons]; omega
              rw [e6]
              by_cases hh : 1 ≤ p.length ∧ p.length ≤ 3
              · rw [if_neg (by simp; omega)]
                by_cases hd : allDig p = true
                · rw [if_pos hd, if_pos ⟨hh.1, hh.2, hd⟩]
                  congr 1; omega
                · rw [if_neg hd, if_neg (fun g => hd g.2.2)]
              · rw [if_pos (by simp; omega), if_neg (fun g => hh ⟨g.1, g.2.1⟩)]
            · rw [if_pos (by left; simpa using hc), if_neg (by simpa using hc)]
              rfl
        · rw [if_pos (by right; right; omega), if_neg hs]; rfl
    · rw [if_neg (by simpa using ha)]
      unfold clockT
      rw [if_neg (by simp), if_pos (by left; simpa [signR] using ha)]
      rfl

theorem clockR_eq (l : List UInt8) : clockR l = whole (timeP l) := by
  unfold clockR timeP
  rcases twoR_two l with ⟨g1, g2⟩ | ⟨h, r, g1, g2, g3, g4⟩
  · rw [g1, g2]
    dsimp only
    by_cases hc : l.length < 5 ∨ signR l 2 58 = false
    · rw [if_pos hc]; rfl
    · rw [if_neg hc, if_pos (by left; omega)]; rfl
  · rw [g1, g2]
    dsimp only
    obtain ⟨a, b, hl, _⟩ := two_form l h r g1
    subst hl
    cases r with
    | nil => rw [if_pos (by left; simp)]; rfl
    | cons c r =>
      have e2 : signR (a :: b :: c :: r) 2 58 = (c == 58) := by unfold signR; simp
      rw [e2]
      by_cases hc : c = 58
      · subst hc
        rw [sgn_of]
        dsimp only
        have e3 : twoR (a :: b :: 58 :: r) 3 = twoR r 0 := by
          exact twoR_at [a, b, 58] r 0
        rw [e3]
        rcases twoR_two r with ⟨k1, k2⟩ | ⟨m, t, k1, k2, k3, k4⟩
        · rw [k1, k2]
          by_cases hc : (a :: b :: 58 :: r).length < 5 ∨ ((58 : UInt8) == 58) = false
          · rw [if_pos hc]; rfl
          · rw [if_neg hc, if_pos (by right; right; left; omega)]; rfl
        · rw [k1, k2]
          dsimp only
          obtain ⟨x, z, hr, _⟩ := two_form r m t k1
          subst hr
          rw [if_neg (by simp)]
          by_cases hm : h < 24 ∧ m < 60
          · rw [if_neg (by omega), if_pos (by simp; exact hm)]
            have e5 : (a :: b :: 58 :: x :: z :: t).drop 5 = t := rfl
            rw [e5, show ((h : Int) * 3600000 + (m : Int) * 60000) = (((h * 60 + m) * 60000 : Nat) : Int) from by omega]
            exact clockT_eq _ t
          · rw [if_pos (by omega), if_neg (by simp; omega)]; rfl
      · rw [sgn_no 58 c r hc, if_pos (by right; simpa using hc)]; rfl

/-- the first T or blank: what is ahead of it, what is behind -/
def midR : List UInt8 → Option (List UInt8 × List UInt8)
  | [] => none
  | c :: r => if isMid c then some ([], r) else (midR r).map fun x => (c :: x.1, x.2)
def localR (l : List UInt8) : Option Int := match midR l with
  | none => none
  | some (p, r) => match dayR p, clockR r with
    | some d, some t => some (d + t)
    | _, _ => none

theorem midR_spec (l : List UInt8) : (midR l = none ∧ l.all (fun c => !isMid c) = true) ∨ ∃ p c r, midR l = some (p, r) ∧ l = p ++ c :: r ∧ isMid c = true ∧ p.all (fun c => !isMid c) = true := by
  induction l with
  | nil => left; exact ⟨rfl, rfl⟩
  | cons c r ih =>
    cases h : isMid c
    · rcases ih with ⟨h1, h2⟩ | ⟨p, d, q, h1, h2, h3, h4⟩
      · left
        refine ⟨by rw [midR, if_neg (by simp [h]), h1]; rfl, by rw [List.all_cons, h, h2]; rfl⟩
      · right
        refine ⟨c :: p, d, q, by rw [midR, if_neg (by simp [h]), h1]; rfl, by rw [h2]; rfl, h3, by rw [List.all_cons, h, h4]; rfl⟩
    · right
      exact ⟨[], c, r, by rw [midR, if_pos h], rfl, h, rfl⟩

theorem midR_at (p : List UInt8) (c : UInt8) (r : List UInt8) (hp : p.all (fun c => !isMid c) = true) (hc : isMid c = true) : midR (p ++ c :: r) = some (p, r) := by
  induction p with
  | nil => rw [List.nil_append, midR, if_pos hc]
  | cons a t ih =>
    rw [List.all_cons, Bool.and_eq_true] at hp
    have ha : isMid a = false := by simpa using hp.1
    rw [List.cons_append, midR, if_neg (by simp [ha]), ih hp.2]; rfl

theorem mid_iff (c : UInt8) : isMid c = true ↔ (c = 32 ∨ c = 84) := by
  unfold isMid
  simp only [Bool.or_eq_true, beq_iff_eq]
  exact Or.comm

theorem whole_some {o : Option (Int × List UInt8)} {v : Int} (h : whole o = some v) : o = some (v, []) := by
  cases o with
  | none => cases h
  | some x =>
    obtain ⟨a, b⟩ := x
    cases b with
    | nil => cases h; rfl
    | cons c t => cases h

theorem localP_form (l : List UInt8) (v : Int) (r : List UInt8) (h : localP l = some (v, r)) : ∃ d r1 c r2 t, dateP l = some (d, r1) ∧ r1 = c :: r2 ∧ isMid c = true ∧ timeP r2 = some (t, r) ∧ v = d + t := by
  unfold localP at h
  split at h
  · cases h
  · rename_i d r1 e1
    split at h
    · cases h
    · rename_i r2 e2
      split at h
      · cases h
      · rename_i t r3 e3
        cases h
        cases r1 with
        | nil => cases e2
        | cons c q =>
          have e : midP (c :: q) = if c = 32 ∨ c = 84 then some q else none := rfl
          rw [e] at e2
          by_cases g : c = 32 ∨ c = 84
          · rw [if_pos g] at e2
            cases e2
            exact ⟨d, _, c, _, t, e1, rfl, (mid_iff c).2 g, e3, rfl⟩
          · rw [if_neg g] at e2; cases e2

theorem localP_of (l : List UInt8) (d t : Int) (c : UInt8) (r2 r : List UInt8) (h1 : dateP l = some (d, c :: r2)) (hc : isMid c = true) (h2 : timeP r2 = some (t, r)) : localP l = some (d + t, r) := by
  unfold localP
  rw [h1]
  have e : midP (c :: r2) = if c = 32 ∨ c = 84 then some r2 else none := rfl
  dsimp only
  rw [e, if_pos ((mid_iff c).1 hc)]
  dsimp only
  rw [h2]

theorem localR_eq (l : List UInt8) : localR l = whole (localP l) := by
  apply Option.ext
  intro v
  constructor
  · intro h
    unfold localR at h
    rcases midR_spec l with ⟨h1, _⟩ | ⟨p, c, r, h1, h2, h3, h4⟩
    · rw [h1] at h; cases h
    · rw [h1] at h
      dsimp only at h
      rw [dayR_eq, clockR_eq] at h
      cases hd : whole (dateP p) with
      | none => rw [hd] at h; cases h
      | some d =>
        cases ht : whole (timeP r) with
        | none => rw [hd, ht] at h; cases h
        | some t =>
          rw [hd, ht] at h
          cases h
          have e1 := dateP_app p d [] (c :: r) (whole_some hd)
          rw [← h2] at e1
          rw [localP_of l d t c r [] e1 h3 (whole_some ht)]
          rfl
  · intro h
    obtain ⟨d, r1, c, r2, t, h1, h2, h3, h4, h5⟩ := localP_form l v [] (whole_some h)
    subst h2
    obtain ⟨p, k1, k2, k3⟩ := date_mid l d (c :: r2) h1
    unfold localR
    rw [k1, midR_at p c r2 k2 h3]
    dsimp only
    rw [dayR_eq, clockR_eq, k3, h4, h5]
    rfl

def parseR (kind : Int) (l : List UInt8) : Option Int :=
  if kind = 1 then dayR l else if kind = 2 then monthR l else if kind = 3 then weekR l else if kind = 4 then clockR l else localR l
theorem parseR_eq (kind : Int) (l : List UInt8) (h1 : 1 ≤ kind) (h2 : kind ≤ 5) : parseR kind l = whole (partP kind l) := by
  have hk : kind = 1 ∨ kind = 2 ∨ kind = 3 ∨ kind = 4 ∨ kind = 5 := by omega
  rcases hk with rfl | rfl | rfl | rfl | rfl
  · exact dayR_eq l
  · exact monthR_eq l
  · exact weekR_eq l
  · exact clockR_eq l
  · exact localR_eq l
end Go.Proofs.YtbhdoocajfkfiaaGreatDoor.mom

namespace Go.Proofs.YtbhdoocajfkfiaaGreatDoor.mom
open Go.Lib Go.Proofs.YtbhdoocajfkfiaaGreatDoor.num Go.Proofs.YtbhdoocajfkfiaaGreatDoor.cal

theorem all_rep (k : Nat) : allDig (List.replicate k 48) = true := by
  induction k with
  | zero => rfl
  | succ k ih => rw [List.replicate_succ, allDig_cons, ih]; rfl
theorem all_app (a b : List UInt8) (ha : allDig a = true) (hb : allDig b = true) : allDig (a ++ b) = true := by
  unfold allDig at *
  rw [List.all_append, ha, hb]; rfl
theorem pad_dig (n k : Nat) : allDig (padS n k) = true ∧ val (padS n k) = n ∧ k ≤ (padS n k).length := by
  obtain ⟨h1, h2⟩ := dec_dig n
  unfold padS
  refine ⟨all_app _ _ (all_rep _) h1, ?_, ?_⟩
  · rw [val_append, val_zeros, h2]; omega
  · rw [List.length_append, List.length_replicate]; omega
theorem pad_len (n k : Nat) (hk : 1 ≤ k) (h : n < 10 ^ k) : (padS n k).length = k := by
  have := nDigits_bd k n h
  rw [← decDigits_length] at this
  unfold padS
  rw [List.length_append, List.length_replicate]; omega
theorem two_pad (m : Nat) (hm : m < 100) (r : List UInt8) : two (padS m 2 ++ r) = some (m, r) := by
  obtain ⟨h1, h2, _⟩ := pad_dig m 2
  have h3 := pad_len m 2 (by decide) hm
  match hp : padS m 2, h3 with
  | [a, b], _ =>
    rw [hp] at h1 h2
    rw [allDig_cons, allDig_cons, Bool.and_eq_true, Bool.and_eq_true] at h1
    have hv : val [a, b] = dv a * 10 + dv b := by
      unfold val
      rw [valFrom_cons, valFrom_cons]
      show (0 * 10 + dv a) * 10 + dv b = _
      omega
    show two (a :: b :: r) = _
    rw [two_of a b r h1.1 h1.2.1, ← hv, h2]
theorem year_pad (y : Nat) (h1 : 1 ≤ y) (h2 : y ≤ 275760) (r : List UInt8) (hr : cnt r = 0) : yearP (padS y 4 ++ r) = some (y, r) := by
  obtain ⟨a, b, c⟩ := pad_dig y 4
  have := yearP_of (padS y 4) r a hr (by rw [b]; unfold yOk; simp; omega)
  rw [b] at this
  exact this
theorem cnt45 (r : List UInt8) : cnt (45 :: r) = 0 := cnt_cons_no 45 r (by decide)

theorem date_back (d : Int) (h1 : -719162 ≤ d) (_h2 : d ≤ 100000109) (hb : 1 ≤ (dateOf d).1 ∧ (dateOf d).1 ≤ 275760) : dateP (ymdS (dateOf d)) = some (d * 86400000, []) := by
  obtain ⟨a, b, c⟩ := date_ok d h1
  obtain ⟨a1, a2, a3, a4⟩ := a
  have hm := mlen_pos (dateOf d).1 (dateOf d).2.1
  unfold ymdS
  have e1 := year_pad (dateOf d).1.toNat (by omega) (by omega) (45 :: (padS (dateOf d).2.1.toNat 2 ++ 45 :: padS (dateOf d).2.2.toNat 2)) (cnt45 _)
  have e2 := two_pad (dateOf d).2.1.toNat (by omega) (45 :: padS (dateOf d).2.2.toNat 2)
  have e3 := two_pad (dateOf d).2.2.toNat (by omega) []
  rw [List.append_nil] at e3
  have ok : dOk (dateOf d).1.toNat (dateOf d).2.1.toNat (dateOf d).2.2.toNat = true := by
    unfold dOk
    rw [Int.toNat_of_nonneg (by omega : 0 ≤ (dateOf d).1), Int.toNat_of_nonneg (by omega : 0 ≤ (dateOf d).2.1), Int.toNat_of_nonneg (by omega : 0 ≤ (dateOf d).2.2)]
    simp only [Bool.and_eq_true, decide_eq_true_eq]
    omega
  rw [dateP_of _ _ _ _ _ _ _ _ _ e1 rfl e2 rfl e3 ok]
  rw [Int.toNat_of_nonneg (by omega : 0 ≤ (dateOf d).1), Int.toNat_of_nonneg (by omega : 0 ≤ (dateOf d).2.1), Int.toNat_of_nonneg (by omega : 0 ≤ (dateOf d).2.2), b]

theorem thou_back (x : Nat) (h0 : 0 < x) (hx : x < 1000) : thou (strip (padS x 3)) = some (x, []) := by
  obtain ⟨h1, h2, _⟩ := pad_dig x 3
  have h3 := pad_len x 3 (by decide) hx
  obtain ⟨k, hk⟩ := strip_pre (padS x 3)
  have hd := strip_dig _ h1
  have hl := strip_le (padS x 3)
  generalize strip (padS x 3) = q at *
  have hlen : q.length + k = 3 := by
    have := congrArg List.length hk
    rw [List.length_append, List.length_replicate, h3] at this; omega
  have hv : val q * 10 ^ k = x := by
    rw [hk, val_append, val_zeros, List.length_replicate] at h2; omega
  have hq : 1 ≤ q.length := by
    apply Nat.pos_of_ne_zero
    intro g
    have : q = [] := List.length_eq_zero_iff.1 g
    rw [this, val_nil] at hv
    omega
  have hc : cnt q = q.length := (cnt_all q).2 hd
  unfold thou
  simp only []
  rw [hc, Nat.min_eq_left (by omega), if_neg (by omega), List.take_length, List.drop_length, show 3 - q.length = k from by omega, hv]

theorem time_back (n : Nat) (hn : n < 86400000) (r : List UInt8) (hr : r = []) : timeP (clockS n ++ r) = some ((n : Int), r) := by
  subst hr
  rw [List.append_nil]
  have h1 : n / 3600000 < 24 := by omega
  have h2 : n / 60000 % 60 < 60 := by omega
  obtain ⟨q, hq⟩ : ∃ q, q = n % 60000 := ⟨_, rfl⟩
  have hqb : q < 60000 := by omega
  have hbase : (n / 3600000 * 60 + n / 60000 % 60) * 60000 + q = n := by omega
  unfold clockS timeP
  rw [two_pad _ (by omega)]
  dsimp only
  rw [sgn_of]
  dsimp only
  rw [two_pad _ (by omega)]
  dsimp only
  rw [if_pos (by simp; omega), ← hq]
  unfold minT partS
  by_cases g0 : q = 0
  · rw [if_pos g0, if_neg (by simp)]
    congr 1
    rw [Prod.mk.injEq]
    exact ⟨by omega, rfl⟩
  · rw [if_neg g0]
    rw [if_pos (show (58 :: (padS (q / 1000) 2 ++ if q % 1000 = 0 then [] else 46 :: strip (padS (q % 1000) 3))).head? = some 58 from rfl)]
    show secP _ (padS (q / 1000) 2 ++ if q % 1000 = 0 then [] else 46 :: strip (padS (q % 1000) 3)) = _
    unfold secP
    rw [two_pad _ (by omega)]
    dsimp only
    rw [if_pos (by omega)]
    unfold secT
    by_cases g1 : q % 1000 = 0
    · rw [if_pos g1, if_neg (by simp)]
      congr 1
      rw [Prod.mk.injEq]
      exact ⟨by omega, rfl⟩
    · rw [if_neg g1, if_pos (show (46 :: strip (padS (q % 1000) 3)).head? = some 46 from rfl)]
      show (match thou (strip (padS (q % 1000) 3)) with | none => none | some (p, r2) => some _) = _
      rw [thou_back (q % 1000) (by omega) (by omega)]
      dsimp only
      congr 1
      rw [Prod.mk.injEq]
      exact ⟨by omega, rfl⟩
end Go.Proofs.YtbhdoocajfkfiaaGreatDoor.mom
