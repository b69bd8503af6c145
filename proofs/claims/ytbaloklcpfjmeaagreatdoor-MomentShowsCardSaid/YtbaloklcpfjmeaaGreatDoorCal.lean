/- The calendar: plain laws over whole numbers. No program in sight. -/
namespace Go.Proofs.YtbaloklcpfjmeaaGreatDoor.cal

/-- a leap year, of any year above 0 -/
def leapP (y : Int) : Prop := y % 400 = 0 ∨ (y % 4 = 0 ∧ y % 100 ≠ 0)
instance (y : Int) : Decidable (leapP y) := by unfold leapP; infer_instance
/-- the number of January 1 -/
def newY (y : Int) : Int := (y - 1) * 365 + (y - 1) / 4 - (y - 1) / 100 + (y - 1) / 400 - 719162
/-- how many days a month has -/
def mlen (y m : Int) : Int := if m = 2 then (if leapP y then 29 else 28) else if m = 4 ∨ m = 6 ∨ m = 9 ∨ m = 11 then 30 else 31
/-- days ahead of a month -/
def cum (y m : Int) : Int :=
  if m ≤ 1 then 0 else if m = 2 then 31 else
    (if m = 3 then 59 else if m = 4 then 90 else if m = 5 then 120 else if m = 6 then 151 else if m = 7 then 181 else if m = 8 then 212 else if m = 9 then 243 else if m = 10 then 273 else if m = 11 then 304 else 334) + (if leapP y then 1 else 0)
def numD (y m d : Int) : Int := newY y + cum y m + (d - 1)

/-- by years that begin in March -/
def civ (y m d : Int) : Int :=
  let y' := if m < 3 then y - 1 else y
  let m' := if m < 3 then m + 12 else m
  (y' / 400) * 146097 + ((y' % 400) * 365 + (y' % 400) / 4 - (y' % 400) / 100 + ((153 * (m' - 3) + 2) / 5 + d - 1)) - 719468

theorem civ_num (y m d : Int) (h1 : 1 ≤ m) (h2 : m ≤ 12) : civ y m d = numD y m d := by
  have hm : m = 1 ∨ m = 2 ∨ m = 3 ∨ m = 4 ∨ m = 5 ∨ m = 6 ∨ m = 7 ∨ m = 8 ∨ m = 9 ∨ m = 10 ∨ m = 11 ∨ m = 12 := by omega
  have hl : leapP y ∨ ¬ leapP y := Decidable.em _
  rcases hl with hl | hl
  · rcases hm with rfl | rfl | rfl | rfl | rfl | rfl | rfl | rfl | rfl | rfl | rfl | rfl <;>
      simp only [civ, numD, newY, cum, hl] <;> unfold leapP at hl <;> simp <;> omega
  · rcases hm with rfl | rfl | rfl | rfl | rfl | rfl | rfl | rfl | rfl | rfl | rfl | rfl <;>
      simp only [civ, numD, newY, cum, hl] <;> unfold leapP at hl <;> simp <;> omega

theorem newY_next (y : Int) : newY (y + 1) = newY y + (if leapP y then 366 else 365) := by
  by_cases h : leapP y
  · rw [if_pos h]; unfold leapP at h; unfold newY; omega
  · rw [if_neg h]; unfold leapP at h; unfold newY; omega
theorem newY_lt (y : Int) : newY y < newY (y + 1) := by
  rw [newY_next]; split <;> omega
theorem newY_mono (a b : Int) (h : a < b) : newY a < newY b := by
  unfold newY; omega

theorem cum_next (y m : Int) (h1 : 1 ≤ m) (h2 : m ≤ 11) : cum y (m + 1) = cum y m + mlen y m := by
  have hm : m = 1 ∨ m = 2 ∨ m = 3 ∨ m = 4 ∨ m = 5 ∨ m = 6 ∨ m = 7 ∨ m = 8 ∨ m = 9 ∨ m = 10 ∨ m = 11 := by omega
  rcases hm with rfl | rfl | rfl | rfl | rfl | rfl | rfl | rfl | rfl | rfl | rfl <;> simp [cum, mlen] <;> split <;> omega
theorem cum_last (y : Int) : cum y 12 + mlen y 12 = if leapP y then 366 else 365 := by
  simp [cum, mlen]; split <;> omega
theorem mlen_pos (y m : Int) : 28 ≤ mlen y m ∧ mlen y m ≤ 31 := by unfold mlen; split <;> (try split) <;> omega

/-- a day of a year: valid -/
def okD (y m d : Int) : Prop := 1 ≤ m ∧ m ≤ 12 ∧ 1 ≤ d ∧ d ≤ mlen y m
theorem cum_bound (y m d : Int) (h : okD y m d) : 0 ≤ cum y m + (d - 1) ∧ cum y m + (d - 1) < (if leapP y then 366 else 365) := by
  obtain ⟨h1, h2, h3, h4⟩ := h
  have hm : m = 1 ∨ m = 2 ∨ m = 3 ∨ m = 4 ∨ m = 5 ∨ m = 6 ∨ m = 7 ∨ m = 8 ∨ m = 9 ∨ m = 10 ∨ m = 11 ∨ m = 12 := by omega
  rcases hm with rfl | rfl | rfl | rfl | rfl | rfl | rfl | rfl | rfl | rfl | rfl | rfl <;> simp [cum, mlen] at * <;> split <;> (try split at h4) <;> omega

theorem num_year (y m d : Int) (h : okD y m d) : newY y ≤ numD y m d ∧ numD y m d < newY (y + 1) := by
  have hb := cum_bound y m d h
  rw [newY_next]
  unfold numD
  omega
theorem num_inj (y m d y' m' d' : Int) (h : okD y m d) (h' : okD y' m' d') (e : numD y m d = numD y' m' d') : y = y' ∧ m = m' ∧ d = d' := by
  have a := num_year y m d h
  have b := num_year y' m' d' h'
  have hy : y = y' := by
    rcases Int.lt_trichotomy y y' with g | g | g
    · have : newY (y + 1) ≤ newY y' := by
        rcases Int.lt_or_eq_of_le (show y + 1 ≤ y' by omega) with k | k
        · exact Int.le_of_lt (newY_mono _ _ k)
        · rw [k]; exact Int.le_refl _
      omega
    · exact g
    · have : newY (y' + 1) ≤ newY y := by
        rcases Int.lt_or_eq_of_le (show y' + 1 ≤ y by omega) with k | k
        · exact Int.le_of_lt (newY_mono _ _ k)
        · rw [k]; exact Int.le_refl _
      omega
  subst hy
  unfold numD at e
  obtain ⟨h1, h2, h3, h4⟩ := h
  obtain ⟨k1, k2, k3, k4⟩ := h'
  have hm : m = 1 ∨ m = 2 ∨ m = 3 ∨ m = 4 ∨ m = 5 ∨ m = 6 ∨ m = 7 ∨ m = 8 ∨ m = 9 ∨ m = 10 ∨ m = 11 ∨ m = 12 := by omega
  have hmm : m = m' := by
    have e1 : cum y m + (d - 1) = cum y m' + (d' - 1) := by omega
    have hm' : m' = 1 ∨ m' = 2 ∨ m' = 3 ∨ m' = 4 ∨ m' = 5 ∨ m' = 6 ∨ m' = 7 ∨ m' = 8 ∨ m' = 9 ∨ m' = 10 ∨ m' = 11 ∨ m' = 12 := by omega
    rcases hm with rfl | rfl | rfl | rfl | rfl | rfl | rfl | rfl | rfl | rfl | rfl | rfl <;>
    rcases hm' with rfl | rfl | rfl | rfl | rfl | rfl | rfl | rfl | rfl | rfl | rfl | rfl <;>
    first
    | rfl
    | (exfalso; simp [cum, mlen] at e1 h4 k4; omega)
    | (exfalso; by_cases hl : leapP y <;> simp [cum, mlen, hl] at e1 h4 k4 <;> omega)
  subst hmm
  exact ⟨rfl, rfl, by omega⟩

/-- the day of a number, by years that begin in March -/
def dateOf (n : Int) : Int × Int × Int :=
  let z := n + 719468
  let era := z / 146097
  let of := z % 146097
  let year := (of - of / 1460 + of / 36524 - of / 146096) / 365
  let day := of - (365 * year + year / 4 - year / 100)
  let k := (5 * day + 2) / 153
  if k + 3 > 12 then (year + era * 400 + 1, k + 3 - 12, day - (153 * k + 2) / 5 + 1) else (year + era * 400, k + 3, day - (153 * k + 2) / 5 + 1)

theorem year_of (o y : Int) (h0 : 0 ≤ o) (h1 : o < 146097) (hy : y = (o - o / 1460 + o / 36524 - o / 146096) / 365) :
    0 ≤ y ∧ y ≤ 399 ∧ 0 ≤ o - (365 * y + y / 4 - y / 100) ∧ o - (365 * y + y / 4 - y / 100) ≤ 365 ∧
      (o - (365 * y + y / 4 - y / 100) = 365 → ((y + 1) % 4 = 0 ∧ ((y + 1) % 100 ≠ 0 ∨ y = 399))) := by
  by_cases h : o = 146096
  · subst h
    have : y = 399 := by rw [hy]; decide
    subst this
    decide
  · obtain ⟨f, hf⟩ : ∃ f, f = o / 36524 := ⟨_, rfl⟩
    obtain ⟨q, hq⟩ : ∃ q, q = (o - 36524 * f) / 1461 := ⟨_, rfl⟩
    obtain ⟨r, hr⟩ : ∃ r, r = o - 36524 * f - 1461 * q := ⟨_, rfl⟩
    have f1 : 0 ≤ f ∧ f ≤ 3 := by omega
    have q1 : 0 ≤ q ∧ q ≤ 24 := by omega
    have r1 : 0 ≤ r ∧ r ≤ 1460 ∧ (q = 24 → r ≤ 1459) := by omega
    obtain ⟨s, hs⟩ : ∃ s, s = if r = 1460 then 3 else r / 365 := ⟨_, rfl⟩
    have s1 : 0 ≤ s ∧ s ≤ 3 ∧ 0 ≤ r - 365 * s ∧ r - 365 * s ≤ 365 ∧ (r - 365 * s = 365 → s = 3) := by
      by_cases g : r = 1460
      · rw [if_pos g] at hs; omega
      · rw [if_neg g] at hs; omega
    have ho : o = 36524 * f + 1461 * q + r := by omega
    have e1 : o / 146096 = 0 := by omega
    obtain ⟨t, ht⟩ : ∃ t, t = if 1460 ≤ 24 * f + q + r then (1 : Int) else 0 := ⟨_, rfl⟩
    have e2 : o / 1460 = 25 * f + q + t := by
      by_cases g : 1460 ≤ 24 * f + q + r
      · rw [if_pos g] at ht; omega
      · rw [if_neg g] at ht; omega
    have e3 : y = 100 * f + 4 * q + s := by
      rw [hy, e1, e2, ← hf]
      by_cases g : 1460 ≤ 24 * f + q + r
      · rw [if_pos g] at ht
        by_cases k : r = 1460
        · rw [if_pos k] at hs; omega
        · rw [if_neg k] at hs; omega
      · rw [if_neg g] at ht
        by_cases k : r = 1460
        · rw [if_pos k] at hs; omega
        · rw [if_neg k] at hs; omega
    have e4 : y / 4 = 25 * f + q := by omega
    have e5 : y / 100 = f := by omega
    rw [e4, e5, e3]
    clear hs ht e2 hy hf hq hr e1 h0 h1 h
    refine ⟨by omega, by omega, by omega, by omega, ?_⟩
    intro hd
    obtain ⟨_, _, _, _, hs3⟩ := s1
    have : s = 3 := hs3 (by omega)
    subst this
    have hr : r = 1460 := by omega
    refine ⟨by omega, ?_⟩
    by_cases hq : q = 24
    · omega
    · left; omega

/-- a day of a year that begins in March -/
theorem march_of (day k : Int) (h0 : 0 ≤ day) (h1 : day ≤ 365) (hk : k = (5 * day + 2) / 153) :
    0 ≤ k ∧ k ≤ 11 ∧ 0 ≤ day - (153 * k + 2) / 5 := by omega

theorem date_ok (n : Int) (h : -719162 ≤ n) : okD (dateOf n).1 (dateOf n).2.1 (dateOf n).2.2 ∧ numD (dateOf n).1 (dateOf n).2.1 (dateOf n).2.2 = n ∧ 1 ≤ (dateOf n).1 := by
  obtain ⟨o, ho⟩ : ∃ o, o = (n + 719468) % 146097 := ⟨_, rfl⟩
  obtain ⟨e, he⟩ : ∃ e, e = (n + 719468) / 146097 := ⟨_, rfl⟩
  have hn : n = e * 146097 + o - 719468 := by omega
  have he0 : 0 ≤ e := by omega
  obtain ⟨y, hy⟩ : ∃ y, y = (o - o / 1460 + o / 36524 - o / 146096) / 365 := ⟨_, rfl⟩
  obtain ⟨y1, y2, d1, d2, d3⟩ := year_of o y (by omega) (by omega) hy
  obtain ⟨dy, hdy⟩ : ∃ dy, dy = o - (365 * y + y / 4 - y / 100) := ⟨_, rfl⟩
  rw [← hdy] at d1 d2 d3
  obtain ⟨k, hk⟩ : ∃ k, k = (5 * dy + 2) / 153 := ⟨_, rfl⟩
  have hd : dateOf n = if k + 3 > 12 then (y + e * 400 + 1, k + 3 - 12, dy - (153 * k + 2) / 5 + 1) else (y + e * 400, k + 3, dy - (153 * k + 2) / 5 + 1) := by
    unfold dateOf
    simp only [← ho, ← he, ← hy, ← hdy, ← hk]
  rw [hd]
  have hyy : (y + e * 400) / 400 = e ∧ (y + e * 400) % 400 = y := by omega
  have hkk : k = 0 ∨ k = 1 ∨ k = 2 ∨ k = 3 ∨ k = 4 ∨ k = 5 ∨ k = 6 ∨ k = 7 ∨ k = 8 ∨ k = 9 ∨ k = 10 ∨ k = 11 := by omega
  clear hd hy
  have hl : leapP (y + e * 400 + 1) ↔ ((y + 1) % 400 = 0 ∨ ((y + 1) % 4 = 0 ∧ (y + 1) % 100 ≠ 0)) := by
    unfold leapP; omega
  -- the number, by civ
  have key : ∀ (Y M D : Int), 1 ≤ M → M ≤ 12 → civ Y M D = n → numD Y M D = n := fun Y M D a b c => by rw [← civ_num Y M D a b]; exact c
  have hnn : n = e * 146097 + (365 * y + y / 4 - y / 100 + dy) - 719468 := by omega
  clear ho he hn
  by_cases hk9 : k + 3 > 12
  · rw [if_pos hk9]
    refine ⟨?_, ?_, ?_⟩
    · show okD (y + e * 400 + 1) (k + 3 - 12) (dy - (153 * k + 2) / 5 + 1)
      unfold okD
      refine ⟨by omega, by omega, by omega, ?_⟩
      have hm : k + 3 - 12 = 1 ∨ k + 3 - 12 = 2 := by omega
      rcases hm with hm | hm
      · rw [hm]; simp [mlen]; omega
      · rw [hm]
        simp only [mlen, if_true]
        by_cases hlp : leapP (y + e * 400 + 1)
        · rw [if_pos hlp]; omega
        · rw [if_neg hlp]
          rw [hl] at hlp
          have : dy ≠ 365 := fun g => hlp (by
            obtain ⟨g1, g2⟩ := d3 g
            rcases g2 with g2 | g2
            · right; exact ⟨g1, g2⟩
            · left; omega)
          omega
    · refine key _ _ _ (by show 1 ≤ k + 3 - 12; omega) (by show k + 3 - 12 ≤ 12; omega) ?_
      show civ (y + e * 400 + 1) (k + 3 - 12) (dy - (153 * k + 2) / 5 + 1) = n
      unfold civ
      rw [if_pos (by omega), if_pos (by omega)]
      dsimp only
      rw [show y + e * 400 + 1 - 1 = y + e * 400 from by omega, hyy.1, hyy.2, show k + 3 - 12 + 12 - 3 = k from by omega]
      omega
    · show 1 ≤ y + e * 400 + 1; omega
  · rw [if_neg hk9]
    refine ⟨?_, ?_, ?_⟩
    · show okD (y + e * 400) (k + 3) (dy - (153 * k + 2) / 5 + 1)
      unfold okD
      refine ⟨by omega, by omega, by omega, ?_⟩
      rcases hkk with h | h | h | h | h | h | h | h | h | h | h | h <;> first | omega | (rw [h]; simp [mlen]; omega)
    · refine key _ _ _ (by show 1 ≤ k + 3; omega) (by show k + 3 ≤ 12; omega) ?_
      show civ (y + e * 400) (k + 3) (dy - (153 * k + 2) / 5 + 1) = n
      unfold civ
      rw [if_neg (by omega), if_neg (by omega)]
      dsimp only
      rw [hyy.1, hyy.2, show k + 3 - 3 = k from by omega]
      omega
    · show 1 ≤ y + e * 400
      have : 306 ≤ e * 146097 + (365 * y + y / 4 - y / 100 + dy) := by omega
      by_cases hz : e = 0
      · subst hz
        rcases Int.lt_or_le y 1 with g | g
        · exfalso
          have hy0 : y = 0 := by omega
          subst hy0
          omega
        · omega
      · omega

/-! weeks -/
def wd (n : Int) : Int := (n + 3) % 7 + 1
def firstW (y : Int) : Int := newY y + 3 - wd (newY y + 3) + 1
theorem firstW_near (y : Int) : newY y - 3 ≤ firstW y ∧ firstW y ≤ newY y + 3 := by unfold firstW wd; omega
theorem firstW_mon (y : Int) : firstW y % 7 = 4 := by unfold firstW wd; omega
theorem firstW_lt (y : Int) : firstW y < firstW (y + 1) := by
  have a := firstW_near y
  have b := firstW_near (y + 1)
  have c := newY_next y
  split at c <;> omega
theorem firstW_mono (a b : Int) (h : a < b) : firstW a < firstW b := by
  have h1 := firstW_near a
  have h2 := firstW_near b
  have : newY a + 365 ≤ newY b := by unfold newY; omega
  omega
def weeksW (y : Int) : Int := (firstW (y + 1) - firstW y) / 7
theorem weeksW_mul (y : Int) : firstW (y + 1) = firstW y + 7 * weeksW y := by
  have a := firstW_mon y
  have b := firstW_mon (y + 1)
  unfold weeksW; omega
theorem weeksW_pos (y : Int) : 0 < weeksW y ∧ weeksW y ≤ 54 := by
  have a := firstW_near y
  have b := firstW_near (y + 1)
  have c := newY_next y
  have d := weeksW_mul y
  split at c <;> omega

/-- the year whose weeks have a day, where y is the day's own -/
def yearW (y n : Int) : Int := if firstW (y + 1) ≤ n then y + 1 else if n < firstW y then y - 1 else y
theorem yearW_ok (y n : Int) (h1 : newY y ≤ n) (h2 : n < newY (y + 1)) : firstW (yearW y n) ≤ n ∧ n < firstW (yearW y n + 1) := by
  have a := firstW_near y
  have b := firstW_near (y + 1)
  have c := firstW_near (y - 1)
  have d := firstW_near (y + 2)
  have e := newY_next y
  have f := newY_next (y + 1)
  have g := newY_next (y - 1)
  rw [show y - 1 + 1 = y from by omega] at g
  rw [show y + 1 + 1 = y + 2 from by omega] at f
  have e' : newY y + 365 ≤ newY (y + 1) := by rw [e]; split <;> omega
  have f' : newY (y + 1) + 365 ≤ newY (y + 2) := by rw [f]; split <;> omega
  have g' : newY (y - 1) + 365 ≤ newY y := by rw [g]; split <;> omega
  unfold yearW
  split
  · rw [show y + 1 + 1 = y + 2 from by omega]; omega
  · split
    · rw [show y - 1 + 1 = y from by omega]; omega
    · omega
theorem yearW_uniq (a b n : Int) (h1 : firstW a ≤ n) (h2 : n < firstW (a + 1)) (k1 : firstW b ≤ n) (k2 : n < firstW (b + 1)) : a = b := by
  rcases Int.lt_trichotomy a b with g | g | g
  · exfalso
    rcases Int.lt_or_eq_of_le (show a + 1 ≤ b by omega) with k | k
    · have := firstW_mono _ _ k; omega
    · rw [k] at h2; omega
  · exact g
  · exfalso
    rcases Int.lt_or_eq_of_le (show b + 1 ≤ a by omega) with k | k
    · have := firstW_mono _ _ k; omega
    · rw [k] at k2; omega
end Go.Proofs.YtbaloklcpfjmeaaGreatDoor.cal
