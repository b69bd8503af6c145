/- Moments by places in the text, as the reference reads them; that is what is read from the front: plain. No program in sight. -/
import Derived.Test.YtbaloklcpfjmeaaGreatDoorMomPure
namespace Go.Proofs.YtbaloklcpfjmeaaGreatDoor.mom
open Go.Lib Go.Proofs.YtbaloklcpfjmeaaGreatDoor.num Go.Proofs.YtbaloklcpfjmeaaGreatDoor.cal

def digR (l : List UInt8) (k : Nat) : Bool := match l[k]? with | some c => isDig c | none => false
def dvR (l : List UInt8) (k : Nat) : Nat := match l[k]? with | some c => dv c | none => 0
def twoR (l : List UInt8) (k : Nat) : Int := if digR l k && digR l (k + 1) then ((dvR l k * 10 + dvR l (k + 1) : Nat) : Int) else -1
def yearR (l : List UInt8) : Nat × Nat := if yOk (cnt l) (val (l.take (cnt l))) then (val (l.take (cnt l)), cnt l) else (0, 0)
def signR (l : List UInt8) (k : Nat) (c : UInt8) : Bool := l[k]? == some c
def dOkI (y m d : Int) : Prop := 1 ≤ y ∧ y ≤ 275760 ∧ 1 ≤ m ∧ m ≤ 12 ∧ 1 ≤ d ∧ d ≤ mlen y m
instance (y m d : Int) : Decidable (dOkI y m d) := by unfold dOkI; infer_instance
def wOkI (y w : Int) : Prop := 1 ≤ y ∧ y ≤ 275760 ∧ 1 ≤ w ∧ w ≤ weeksW y
instance (y w : Int) : Decidable (wOkI y w) := by unfold wOkI; infer_instance
def dayR (l : List UInt8) : Option Int :=
  if (yearR l).2 ≠ 0 ∧ l.length = (yearR l).2 + 6 ∧ signR l (yearR l).2 45 = true ∧ signR l ((yearR l).2 + 3) 45 = true then
    (if dOkI (yearR l).1 (twoR l ((yearR l).2 + 1)) (twoR l ((yearR l).2 + 4)) then some (numD (yearR l).1 (twoR l ((yearR l).2 + 1)) (twoR l ((yearR l).2 + 4)) * 86400000) else none)
  else none

theorem digR_at (p r : List UInt8) (k : Nat) : digR (p ++ r) (p.length + k) = digR r k := by
  unfold digR; rw [List.getElem?_append_right (by omega), Nat.add_sub_cancel_left]
theorem dvR_at (p r : List UInt8) (k : Nat) : dvR (p ++ r) (p.length + k) = dvR r k := by
  unfold dvR; rw [List.getElem?_append_right (by omega), Nat.add_sub_cancel_left]
theorem twoR_at (p r : List UInt8) (k : Nat) : twoR (p ++ r) (p.length + k) = twoR r k := by
  unfold twoR; rw [Nat.add_assoc, digR_at, digR_at, dvR_at, dvR_at]
theorem signR_at (p r : List UInt8) (k : Nat) (c : UInt8) : signR (p ++ r) (p.length + k) c = signR r k c := by
  unfold signR; rw [List.getElem?_append_right (by omega), Nat.add_sub_cancel_left]

theorem yearR_none (l : List UInt8) (h : yearP l = none) : yearR l = (0, 0) := by
  unfold yearP at h
  unfold yearR
  split at h
  · cases h
  · rename_i g; rw [if_neg g]
theorem yearR_some (l : List UInt8) (y : Nat) (r : List UInt8) (h : yearP l = some (y, r)) : ∃ ds, l = ds ++ r ∧ yearR l = (y, ds.length) ∧ 4 ≤ ds.length ∧ 1 ≤ y ∧ y ≤ 275760 := by
  obtain ⟨ds, h1, h2, h3, h4, h5⟩ := yearP_form l y r h
  refine ⟨ds, h1, ?_, ?_⟩
  · unfold yearP at h
    unfold yearR
    split at h
    · rename_i g
      rw [if_pos g]
      cases h
      rw [h5]
    · cases h
  · unfold yOk at h3
    simp only [Bool.and_eq_true, decide_eq_true_eq] at h3
    omega
theorem twoR_some (a b : UInt8) (r : List UInt8) (ha : isDig a = true) (hb : isDig b = true) : twoR (a :: b :: r) 0 = ((dv a * 10 + dv b : Nat) : Int) := by
  unfold twoR digR dvR
  simp [ha, hb]
theorem twoR_two (l : List UInt8) : (two l = none ∧ twoR l 0 = -1) ∨ ∃ n r, two l = some (n, r) ∧ twoR l 0 = n ∧ l.length = r.length + 2 ∧ n < 100 := by
  match l with
  | [] => left; exact ⟨rfl, rfl⟩
  | [a] => left; exact ⟨rfl, by simp [twoR, digR]⟩
  | a :: b :: r =>
    by_cases h : (isDig a && isDig b) = true
    · right
      rw [Bool.and_eq_true] at h
      exact ⟨_, r, two_of a b r h.1 h.2, twoR_some a b r h.1 h.2, rfl, two_lt _ _ _ (two_of a b r h.1 h.2)⟩
    · left
      have e : two (a :: b :: r) = if (isDig a && isDig b) = true then some (dv a * 10 + dv b, r) else none := rfl
      refine ⟨by rw [e, if_neg h], ?_⟩
      unfold twoR digR
      simp only [List.getElem?_cons_zero, List.getElem?_cons_succ, Nat.zero_add]
      rw [if_neg h]

theorem dOk_iff (y m d : Nat) (h1 : 1 ≤ y) (h2 : y ≤ 275760) : dOk y m d = true ↔ dOkI y m d := by
  unfold dOk dOkI
  simp only [Bool.and_eq_true, decide_eq_true_eq]
  omega

/-- behind the year: sign, two digits, sign, two digits, and no more -/
theorem tail6 (r : List UInt8) (h : r.length = 6) : ∃ a b c d e f, r = [a, b, c, d, e, f] := by
  match r, h with
  | [a, b, c, d, e, f], _ => exact ⟨a, b, c, d, e, f, rfl⟩

theorem dayR_eq (l : List UInt8) : dayR l = whole (dateP l) := by
  cases hy : yearP l with
  | none =>
    have e : dateP l = none := by unfold dateP; rw [hy]
    unfold dayR
    rw [yearR_none l hy, e, if_neg (fun g => g.1 rfl)]; rfl
  | some yr =>
    obtain ⟨y, r⟩ := yr
    obtain ⟨ds, hl, hR, h4, hy1, hy2⟩ := yearR_some l y r hy
    unfold dayR
    rw [hR]
    dsimp only
    have z0 : ds.length ≠ 0 := by omega
    have hlen : l.length = ds.length + r.length := by rw [hl, List.length_append]
    have es0 : signR l ds.length 45 = signR r 0 45 := by rw [hl]; exact signR_at ds r 0 45
    have es3 : signR l (ds.length + 3) 45 = signR r 3 45 := by rw [hl]; exact signR_at ds r 3 45
    have et1 : twoR l (ds.length + 1) = twoR r 1 := by rw [hl]; exact twoR_at ds r 1
    have et4 : twoR l (ds.length + 4) = twoR r 4 := by rw [hl]; exact twoR_at ds r 4
    rw [es0, es3, et1, et4]
    by_cases h6 : r.length = 6
    · obtain ⟨a, b, c, d, e, f, rfl⟩ := tail6 r h6
      have e1 : twoR [a, b, c, d, e, f] 1 = twoR [b, c, d, e, f] 0 := rfl
      have e4 : twoR [a, b, c, d, e, f] 4 = twoR [e, f] 0 := rfl
      rw [e1, e4]
      have hlt : l.length = ds.length + 6 := by rw [hlen]; rfl
      by_cases ha : a = 45
      · by_cases hd : d = 45
        · subst ha
          subst hd
          rw [if_pos ⟨z0, hlt, rfl, rfl⟩]
          rcases twoR_two [b, c, 45, e, f] with ⟨g1, g2⟩ | ⟨m, q, g1, g2, g3, g4⟩
          · have : dateP l = none := by unfold dateP; rw [hy]; simp only [sgn_of, g1]
            rw [this, if_neg (by rw [g2]; unfold dOkI; omega)]; rfl
          · have hq : q = [45, e, f] := by
              obtain ⟨x, z, k1, _, _, _⟩ := two_form _ _ _ g1
              have := List.cons.inj k1
              have := List.cons.inj this.2
              exact this.2.symm
            subst hq
            rcases twoR_two [e, f] with ⟨k1, k2⟩ | ⟨dd, q, k1, k2, k3, k4⟩
            · have : dateP l = none := by unfold dateP; rw [hy]; simp only [sgn_of, g1, k1]
              rw [this, if_neg (by rw [k2]; unfold dOkI; omega)]; rfl
            · have hq : q = [] := by
                simp at k3; exact k3
              subst hq
              rw [g2, k2]
              by_cases hok : dOk y m dd = true
              · rw [if_pos ((dOk_iff y m dd hy1 hy2).1 hok), dateP_of l y m dd _ [b, c, 45, e, f] _ [e, f] [] hy rfl g1 rfl k1 hok]
                rfl
              · have : dateP l = none := by unfold dateP; rw [hy]; simp only [sgn_of, g1, k1]; rw [if_neg hok]
                rw [this, if_neg (fun g => hok ((dOk_iff y m dd hy1 hy2).2 g))]; rfl
        · have : whole (dateP l) = none := by
            cases hh : dateP l with
            | none => rfl
            | some vr =>
              exfalso
              obtain ⟨v, rr⟩ := vr
              obtain ⟨y', m, d', r1, r2, r3, r4, k1, k2, k3, k4, k5, k6, k7⟩ := dateP_form l v rr hh
              rw [hy] at k1
              cases k1
              obtain ⟨x, z, q1, _⟩ := two_form r2 m r3 k3
              rw [q1, k4] at k2
              simp at k2
              exact hd k2.2.2.2.1
          rw [this, if_neg]
          rintro ⟨_, _, _, g⟩
          apply hd
          simpa [signR] using g
      · have : dateP l = none := by
          unfold dateP; rw [hy]
          simp only [sgn, if_neg ha]
        rw [this, if_neg]
        · rfl
        · rintro ⟨_, _, g, _⟩
          apply ha
          simpa [signR] using g
    · have : whole (dateP l) = none := by
        cases hh : dateP l with
        | none => rfl
        | some vr =>
          obtain ⟨v, rr⟩ := vr
          cases rr with
          | cons c t => rfl
          | nil =>
            exfalso
            obtain ⟨y', m, d', r1, r2, r3, r4, k1, k2, k3, k4, k5, k6, k7⟩ := dateP_form l v [] hh
            rw [hy] at k1
            cases k1
            obtain ⟨x, z, q1, _⟩ := two_form r2 m r3 k3
            obtain ⟨x', z', q2, _⟩ := two_form r4 d' [] k5
            rw [k2, q1, k4, q2] at h6
            exact h6 rfl
      rw [this, if_neg]
      rintro ⟨_, g, _⟩
      exact h6 (by omega)

def monthR (l : List UInt8) : Option Int :=
  if (yearR l).2 > 0 ∧ l.length = (yearR l).2 + 3 ∧ signR l (yearR l).2 45 = true ∧ 1 ≤ twoR l ((yearR l).2 + 1) ∧ twoR l ((yearR l).2 + 1) ≤ 12 then some ((((yearR l).1 : Int) - 1970) * 12 + twoR l ((yearR l).2 + 1) - 1) else none
theorem monthR_eq (l : List UInt8) : monthR l = whole (monthP l) := by
  cases hy : yearP l with
  | none =>
    have e : monthP l = none := by unfold monthP; rw [hy]
    unfold monthR
    rw [yearR_none l hy, e, if_neg (fun g => by have := g.1; simp at this)]; rfl
  | some yr =>
    obtain ⟨y, r⟩ := yr
    obtain ⟨ds, hl, hR, h4, hy1, hy2⟩ := yearR_some l y r hy
    unfold monthR
    rw [hR]
    dsimp only
    have hlen : l.length = ds.length + r.length := by rw [hl, List.length_append]
    have es0 : signR l ds.length 45 = signR r 0 45 := by rw [hl]; exact signR_at ds r 0 45
    have et1 : twoR l (ds.length + 1) = twoR r 1 := by rw [hl]; exact twoR_at ds r 1
    rw [es0, et1]
    cases r with
    | nil =>
      have e : monthP l = none := by unfold monthP; rw [hy]; rfl
      rw [e, if_neg (fun g => by have := g.2.1; simp at hlen; omega)]; rfl
    | cons a r =>
      have e1 : twoR (a :: r) 1 = twoR r 0 := by
        show twoR ([a] ++ r) ([a].length + 0) = _
        rw [twoR_at]
      rw [e1]
      by_cases ha : a = 45
      · subst ha
        rcases twoR_two r with ⟨g1, g2⟩ | ⟨m, q, g1, g2, g3, g4⟩
        · have e : monthP l = none := by unfold monthP; rw [hy]; simp only [sgn_of, g1]
          rw [e, if_neg (fun g => by have := g.2.2.2.1; omega)]; rfl
        · have e : monthP l = if (decide (1 ≤ m) && decide (m ≤ 12)) = true then some (12 * ((y : Int) - 1970) + m - 1, q) else none := by
            unfold monthP; rw [hy]; simp only [sgn_of, g1]
          rw [e, g2]
          simp only [List.length_cons] at hlen
          have hb : (decide (1 ≤ m) && decide (m ≤ 12)) = true ↔ (1 ≤ m ∧ m ≤ 12) := by simp
          cases q with
          | nil =>
            by_cases hm : 1 ≤ m ∧ m ≤ 12
            · rw [if_pos ⟨by omega, by simp at g3; omega, rfl, by omega, by omega⟩, if_pos (hb.2 hm)]
              show some _ = some _
              congr 1; omega
            · rw [if_neg (fun g => hm (by have := g.2.2.2; omega)), if_neg (fun g => hm (hb.1 g))]; rfl
          | cons c t =>
            rw [if_neg (fun g => by have := g.2.1; simp at g3; omega)]
            by_cases hm : 1 ≤ m ∧ m ≤ 12
            · rw [if_pos (hb.2 hm)]; rfl
            · rw [if_neg (fun g => hm (hb.1 g))]; rfl
      · have e : monthP l = none := by unfold monthP; rw [hy]; simp only [sgn, if_neg ha]
        rw [e, if_neg (fun g => ha (by simpa [signR] using g.2.2.1))]; rfl

def weekR (l : List UInt8) : Option Int :=
  if (yearR l).2 ≠ 0 ∧ l.length = (yearR l).2 + 4 ∧ signR l (yearR l).2 45 = true ∧ signR l ((yearR l).2 + 1) 87 = true then
    (if wOkI (yearR l).1 (twoR l ((yearR l).2 + 2)) then some ((firstW (yearR l).1 + 7 * (twoR l ((yearR l).2 + 2) - 1)) * 86400000) else none)
  else none
theorem wOk_iff (y w : Nat) (h1 : 1 ≤ y) (h2 : y ≤ 275760) : wOk y w = true ↔ wOkI y w := by
  unfold wOk wOkI
  simp only [Bool.and_eq_true, decide_eq_true_eq]
  omega
theorem weekR_eq (l : List UInt8) : weekR l = whole (weekP l) := by
  cases hy : yearP l with
  | none =>
    have e : weekP l = none := by unfold weekP; rw [hy]
    unfold weekR
    rw [yearR_none l hy, e, if_neg (fun g => g.1 rfl)]; rfl
  | some yr =>
    obtain ⟨y, r⟩ := yr
    obtain ⟨ds, hl, hR, h4, hy1, hy2⟩ := yearR_some l y r hy
    unfold weekR
    rw [hR]
    dsimp only
    have hlen : l.length = ds.length + r.length := by rw [hl, List.length_append]
    have es0 : signR l ds.length 45 = signR r 0 45 := by rw [hl]; exact signR_at ds r 0 45
    have es1 : signR l (ds.length + 1) 87 = signR r 1 87 := by rw [hl]; exact signR_at ds r 1 87
    have et1 : twoR l (ds.length + 2) = twoR r 2 := by rw [hl]; exact twoR_at ds r 2
    rw [es0, es1, et1]
    match r with
    | [] =>
      have e : weekP l = none := by unfold weekP; rw [hy]; rfl
      rw [e, if_neg (fun g => by have := g.2.1; simp at hlen; omega)]; rfl
    | [a] =>
      have e : weekP l = none := by
        unfold weekP; rw [hy]
        by_cases ha : a = 45
        · subst ha; simp only [sgn_of]; rfl
        · simp only [sgn, if_neg ha]
      rw [e, if_neg (fun g => by have := g.2.1; simp at hlen; omega)]; rfl
    | a :: b :: r =>
      have e1 : twoR (a :: b :: r) 2 = twoR r 0 := by
        show twoR ([a, b] ++ r) ([a, b].length + 0) = _
        rw [twoR_at]
      rw [e1]
      by_cases ha : a = 45
      · by_cases hb : b = 87
        · subst ha
          subst hb
          rcases twoR_two r with ⟨g1, g2⟩ | ⟨m, q, g1, g2, g3, g4⟩
          · have e : weekP l = none := by unfold weekP; rw [hy]; simp only [sgn_of, g1]
            rw [e]
            show _ = none
            by_cases hc : ds.length ≠ 0 ∧ l.length = ds.length + 4 ∧ signR (45 :: 87 :: r) 0 45 = true ∧ signR (45 :: 87 :: r) 1 87 = true
            · rw [if_pos hc, if_neg (by rw [g2]; unfold wOkI; omega)]
            · rw [if_neg hc]
          · have e : weekP l = if wOk y m = true then some ((firstW y + 7 * ((m : Int) - 1)) * 86400000, q) else none := by
              unfold weekP; rw [hy]; simp only [sgn_of, g1]
            rw [e, g2]
            simp only [List.length_cons] at hlen
            cases q with
            | nil =>
              rw [if_pos ⟨by omega, by simp at g3; omega, rfl, rfl⟩]
              by_cases hm : wOk y m = true
              · rw [if_pos hm, if_pos ((wOk_iff y m hy1 hy2).1 hm)]; rfl
              · rw [if_neg hm, if_neg (fun g => hm ((wOk_iff y m hy1 hy2).2 g))]; rfl
            | cons c t =>
              rw [if_neg (fun g => by have := g.2.1; simp at g3; omega)]
              by_cases hm : wOk y m = true
              · rw [if_pos hm]; rfl
              · rw [if_neg hm]; rfl
        · have e : weekP l = none := by unfold weekP; rw [hy]; subst ha; simp only [sgn_of]; simp only [sgn, if_neg hb]
          rw [e, if_neg (fun g => hb (by simpa [signR] using g.2.2.2))]; rfl
      · have e : weekP l = none := by unfold weekP; rw [hy]; simp only [sgn, if_neg ha]
        rw [e, if_neg (fun g => ha (by simpa [signR] using g.2.2.1))]; rfl
end Go.Proofs.YtbaloklcpfjmeaaGreatDoor.mom
