/- A time's text by places, and from the front; a day and a time: plain. No program in sight. -/
import Derived.Test.YtbaloklcpfjmeaaGreatDoorMomRef
namespace Go.Proofs.YtbaloklcpfjmeaaGreatDoor.mom
open Go.Lib Go.Proofs.YtbaloklcpfjmeaaGreatDoor.num Go.Proofs.YtbaloklcpfjmeaaGreatDoor.cal

/-- behind the minutes -/
def clockT (n : Int) (t : List UInt8) : Option Int :=
  if t.length = 0 then some n
  else if signR t 0 58 = false ∨ twoR t 1 < 0 ∨ 59 < twoR t 1 then none
  else if t.length = 3 then some (n + twoR t 1 * 1000)
  else if signR t 3 46 = false ∨ t.length < 5 ∨ 7 < t.length then none
  else if allDig (t.drop 4) = true then some (n + twoR t 1 * 1000 + ((val (t.drop 4) * 10 ^ (7 - t.length) : Nat) : Int)) else none
def clockR (l : List UInt8) : Option Int :=
  if l.length < 5 ∨ signR l 2 58 = false then none
  else if twoR l 0 < 0 ∨ 23 < twoR l 0 ∨ twoR l 3 < 0 ∨ 59 < twoR l 3 then none
  else clockT (twoR l 0 * 3600000 + twoR l 3 * 60000) (l.drop 5)

theorem sgn_no (c d : UInt8) (t : List UInt8) (h : ¬ d = c) : sgn c (d :: t) = none := by simp only [sgn, if_neg h]

theorem thou_whole (p : List UInt8) (n : Int) : (match thou p with | none => none | some (q, r) => whole (some (n + (q : Int), r))) = if 1 ≤ p.length ∧ p.length ≤ 3 ∧ allDig p = true then some (n + ((val p * 10 ^ (3 - p.length) : Nat) : Int)) else none := by
  have hle := cnt_le p
  have hall := cnt_all p
  by_cases h : 1 ≤ p.length ∧ p.length ≤ 3 ∧ allDig p = true
  · obtain ⟨h1, h2, h3⟩ := h
    have hc := hall.2 h3
    have e : thou p = some (val p * 10 ^ (3 - p.length), []) := by
      unfold thou
      simp only []
      rw [hc, Nat.min_eq_left h2, if_neg (by omega), List.take_length, List.drop_length]
    rw [e, if_pos ⟨h1, h2, h3⟩]
    rfl
  · rw [if_neg h]
    unfold thou
    simp only []
    by_cases h0 : min (cnt p) 3 = 0
    · rw [if_pos h0]
    · rw [if_neg h0]
      have : p.drop (min (cnt p) 3) ≠ [] := by
        intro g
        have g2 : p.length ≤ min (cnt p) 3 := List.drop_eq_nil_iff.1 g
        apply h
        exact ⟨by omega, by omega, hall.1 (by omega)⟩
      cases hd : p.drop (min (cnt p) 3) with
      | nil => exact absurd hd this
      | cons c t => rfl

theorem clockT_eq (n : Nat) (t : List UInt8) : clockT n t = whole (minT n t) := by
  unfold minT
  cases t with
  | nil => rfl
  | cons a r =>
    by_cases ha : a = 58
    · subst ha
      rw [if_pos (show (58 :: r).head? = some 58 from rfl)]
      show _ = whole (secP n r)
      unfold clockT secP
      rw [if_neg (by simp)]
      have e1 : twoR (58 :: r) 1 = twoR r 0 := by
        exact twoR_at [58] r 0
      have e0 : signR (58 :: r) 0 58 = true := rfl
      rw [e1, e0]
      rcases twoR_two r with ⟨g1, g2⟩ | ⟨s, q, g1, g2, g3, g4⟩
      · rw [if_pos (by right; left; omega), g1]; rfl
      · rw [g1, g2]
        dsimp only
        by_cases hs : s < 60
        · rw [if_neg (by simp; omega), if_pos hs]
          have hl : (58 :: r).length = q.length + 3 := by simp; omega
          rw [hl]
          obtain ⟨x, z, hr, _⟩ := two_form r s q g1
          subst hr
          unfold secT
          cases q with
          | nil => rw [if_pos (by simp), if_neg (by simp)]; show some _ = some _; congr 1; omega
          | cons c p =>
            rw [if_neg (by simp)]
            have e3 : signR (58 :: x :: z :: c :: p) 3 46 = (c == 46) := by
              unfold signR
              simp
            rw [e3]
            by_cases hc : c = 46
            · subst hc
              have := thou_whole p ((n + 1000 * s : Nat) : Int)
              have e4 : (58 :: x :: z :: 46 :: p).drop 4 = p := rfl
              have e5 : whole (match thou p with | none => none | some (p, r2) => some (((n + 1000 * s + p : Nat) : Int), r2)) = (match thou p with | none => none | some (q, r) => whole (some (((n + 1000 * s : Nat) : Int) + (q : Int), r))) := by
                cases thou p with
                | none => rfl
                | some v => obtain ⟨a, b⟩ := v; rfl
              rw [if_pos (show (46 :: p).head? = some 46 from rfl)]
              show _ = whole (match thou p with | none => none | some (p, r2) => some (((n + 1000 * s + p : Nat) : Int), r2))
              rw [e4, e5, this]
              have e6 : 7 - ((46 :: p).length + 3) = 3 - p.length := by simp only [List.length_cons]; omega
              rw [e6]
              by_cases hh : 1 ≤ p.length ∧ p.length ≤ 3
              · rw [if_neg (by simp; omega)]
                by_cases hd : allDig p = true
                · rw [if_pos hd, if_pos ⟨hh.1, hh.2, hd⟩]
                  congr 1; omega
                · rw [if_neg hd, if_neg (fun g => hd g.2.2)]
              · rw [if_pos (by simp; omega), if_neg (fun g => hh ⟨g.1, g.2.1⟩)]
            · rw [if_pos (by left; simpa using hc), if_neg (by simpa using hc)]
              rfl
        · rw [if_pos (by right; right; omega), if_neg hs]; rfl
    · rw [if_neg (by simpa using ha)]
      unfold clockT
      rw [if_neg (by simp), if_pos (by left; simpa [signR] using ha)]
      rfl

theorem clockR_eq (l : List UInt8) : clockR l = whole (timeP l) := by
  unfold clockR timeP
  rcases twoR_two l with ⟨g1, g2⟩ | ⟨h, r, g1, g2, g3, g4⟩
  · rw [g1, g2]
    dsimp only
    by_cases hc : l.length < 5 ∨ signR l 2 58 = false
    · rw [if_pos hc]; rfl
    · rw [if_neg hc, if_pos (by left; omega)]; rfl
  · rw [g1, g2]
    dsimp only
    obtain ⟨a, b, hl, _⟩ := two_form l h r g1
    subst hl
    cases r with
    | nil => rw [if_pos (by left; simp)]; rfl
    | cons c r =>
      have e2 : signR (a :: b :: c :: r) 2 58 = (c == 58) := by unfold signR; simp
      rw [e2]
      by_cases hc : c = 58
      · subst hc
        rw [sgn_of]
        dsimp only
        have e3 : twoR (a :: b :: 58 :: r) 3 = twoR r 0 := by
          exact twoR_at [a, b, 58] r 0
        rw [e3]
        rcases twoR_two r with ⟨k1, k2⟩ | ⟨m, t, k1, k2, k3, k4⟩
        · rw [k1, k2]
          by_cases hc : (a :: b :: 58 :: r).length < 5 ∨ ((58 : UInt8) == 58) = false
          · rw [if_pos hc]; rfl
          · rw [if_neg hc, if_pos (by right; right; left; omega)]; rfl
        · rw [k1, k2]
          dsimp only
          obtain ⟨x, z, hr, _⟩ := two_form r m t k1
          subst hr
          rw [if_neg (by simp)]
          by_cases hm : h < 24 ∧ m < 60
          · rw [if_neg (by omega), if_pos (by simp; exact hm)]
            have e5 : (a :: b :: 58 :: x :: z :: t).drop 5 = t := rfl
            rw [e5, show ((h : Int) * 3600000 + (m : Int) * 60000) = (((h * 60 + m) * 60000 : Nat) : Int) from by omega]
            exact clockT_eq _ t
          · rw [if_pos (by omega), if_neg (by simp; omega)]; rfl
      · rw [sgn_no 58 c r hc, if_pos (by right; simpa using hc)]; rfl

/-- the first T or blank: what is ahead of it, what is behind -/
def midR : List UInt8 → Option (List UInt8 × List UInt8)
  | [] => none
  | c :: r => if isMid c then some ([], r) else (midR r).map fun x => (c :: x.1, x.2)
def localR (l : List UInt8) : Option Int := match midR l with
  | none => none
  | some (p, r) => match dayR p, clockR r with
    | some d, some t => some (d + t)
    | _, _ => none

theorem midR_spec (l : List UInt8) : (midR l = none ∧ l.all (fun c => !isMid c) = true) ∨ ∃ p c r, midR l = some (p, r) ∧ l = p ++ c :: r ∧ isMid c = true ∧ p.all (fun c => !isMid c) = true := by
  induction l with
  | nil => left; exact ⟨rfl, rfl⟩
  | cons c r ih =>
    cases h : isMid c
    · rcases ih with ⟨h1, h2⟩ | ⟨p, d, q, h1, h2, h3, h4⟩
      · left
        refine ⟨by rw [midR, if_neg (by simp [h]), h1]; rfl, by rw [List.all_cons, h, h2]; rfl⟩
      · right
        refine ⟨c :: p, d, q, by rw [midR, if_neg (by simp [h]), h1]; rfl, by rw [h2]; rfl, h3, by rw [List.all_cons, h, h4]; rfl⟩
    · right
      exact ⟨[], c, r, by rw [midR, if_pos h], rfl, h, rfl⟩

theorem midR_at (p : List UInt8) (c : UInt8) (r : List UInt8) (hp : p.all (fun c => !isMid c) = true) (hc : isMid c = true) : midR (p ++ c :: r) = some (p, r) := by
  induction p with
  | nil => rw [List.nil_append, midR, if_pos hc]
  | cons a t ih =>
    rw [List.all_cons, Bool.and_eq_true] at hp
    have ha : isMid a = false := by simpa using hp.1
    rw [List.cons_append, midR, if_neg (by simp [ha]), ih hp.2]; rfl

theorem mid_iff (c : UInt8) : isMid c = true ↔ (c = 32 ∨ c = 84) := by
  unfold isMid
  simp only [Bool.or_eq_true, beq_iff_eq]
  exact Or.comm

theorem whole_some {o : Option (Int × List UInt8)} {v : Int} (h : whole o = some v) : o = some (v, []) := by
  cases o with
  | none => cases h
  | some x =>
    obtain ⟨a, b⟩ := x
    cases b with
    | nil => cases h; rfl
    | cons c t => cases h

theorem localP_form (l : List UInt8) (v : Int) (r : List UInt8) (h : localP l = some (v, r)) : ∃ d r1 c r2 t, dateP l = some (d, r1) ∧ r1 = c :: r2 ∧ isMid c = true ∧ timeP r2 = some (t, r) ∧ v = d + t := by
  unfold localP at h
  split at h
  · cases h
  · rename_i d r1 e1
    split at h
    · cases h
    · rename_i r2 e2
      split at h
      · cases h
      · rename_i t r3 e3
        cases h
        cases r1 with
        | nil => cases e2
        | cons c q =>
          have e : midP (c :: q) = if c = 32 ∨ c = 84 then some q else none := rfl
          rw [e] at e2
          by_cases g : c = 32 ∨ c = 84
          · rw [if_pos g] at e2
            cases e2
            exact ⟨d, _, c, _, t, e1, rfl, (mid_iff c).2 g, e3, rfl⟩
          · rw [if_neg g] at e2; cases e2

theorem localP_of (l : List UInt8) (d t : Int) (c : UInt8) (r2 r : List UInt8) (h1 : dateP l = some (d, c :: r2)) (hc : isMid c = true) (h2 : timeP r2 = some (t, r)) : localP l = some (d + t, r) := by
  unfold localP
  rw [h1]
  have e : midP (c :: r2) = if c = 32 ∨ c = 84 then some r2 else none := rfl
  dsimp only
  rw [e, if_pos ((mid_iff c).1 hc)]
  dsimp only
  rw [h2]

theorem localR_eq (l : List UInt8) : localR l = whole (localP l) := by
  apply Option.ext
  intro v
  constructor
  · intro h
    unfold localR at h
    rcases midR_spec l with ⟨h1, _⟩ | ⟨p, c, r, h1, h2, h3, h4⟩
    · rw [h1] at h; cases h
    · rw [h1] at h
      dsimp only at h
      rw [dayR_eq, clockR_eq] at h
      cases hd : whole (dateP p) with
      | none => rw [hd] at h; cases h
      | some d =>
        cases ht : whole (timeP r) with
        | none => rw [hd, ht] at h; cases h
        | some t =>
          rw [hd, ht] at h
          cases h
          have e1 := dateP_app p d [] (c :: r) (whole_some hd)
          rw [← h2] at e1
          rw [localP_of l d t c r [] e1 h3 (whole_some ht)]
          rfl
  · intro h
    obtain ⟨d, r1, c, r2, t, h1, h2, h3, h4, h5⟩ := localP_form l v [] (whole_some h)
    subst h2
    obtain ⟨p, k1, k2, k3⟩ := date_mid l d (c :: r2) h1
    unfold localR
    rw [k1, midR_at p c r2 k2 h3]
    dsimp only
    rw [dayR_eq, clockR_eq, k3, h4, h5]
    rfl

def parseR (kind : Int) (l : List UInt8) : Option Int :=
  if kind = 1 then dayR l else if kind = 2 then monthR l else if kind = 3 then weekR l else if kind = 4 then clockR l else localR l
theorem parseR_eq (kind : Int) (l : List UInt8) (h1 : 1 ≤ kind) (h2 : kind ≤ 5) : parseR kind l = whole (partP kind l) := by
  have hk : kind = 1 ∨ kind = 2 ∨ kind = 3 ∨ kind = 4 ∨ kind = 5 := by omega
  rcases hk with rfl | rfl | rfl | rfl | rfl
  · exact dayR_eq l
  · exact monthR_eq l
  · exact weekR_eq l
  · exact clockR_eq l
  · exact localR_eq l
end Go.Proofs.YtbaloklcpfjmeaaGreatDoor.mom
