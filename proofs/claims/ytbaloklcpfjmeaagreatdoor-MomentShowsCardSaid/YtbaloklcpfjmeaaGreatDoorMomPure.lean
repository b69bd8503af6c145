/- Moments as texts: what is read, what is shown: plain. No program in sight. -/
import Derived.Test.YtbaloklcpfjmeaaGreatDoorNumPure
import Derived.Test.YtbaloklcpfjmeaaGreatDoorCal
namespace Go.Proofs.YtbaloklcpfjmeaaGreatDoor.mom
open Go.Lib Go.Proofs.YtbaloklcpfjmeaaGreatDoor.num Go.Proofs.YtbaloklcpfjmeaaGreatDoor.cal

/-- two digits ahead: their number, and the rest -/
def two : List UInt8 → Option (Nat × List UInt8)
  | a :: b :: r => if isDig a && isDig b then some (dv a * 10 + dv b, r) else none
  | _ => none
def sgn (c : UInt8) : List UInt8 → Option (List UInt8)
  | d :: r => if d = c then some r else none
  | [] => none
def yOk (n y : Nat) : Bool := decide (4 ≤ n) && (decide (1 ≤ y) && decide (y ≤ 275760))
def yearP (l : List UInt8) : Option (Nat × List UInt8) :=
  if yOk (cnt l) (val (l.take (cnt l))) then some (val (l.take (cnt l)), l.drop (cnt l)) else none
/-- is there such a day? -/
def dOk (y m d : Nat) : Bool := decide (1 ≤ m) && decide (m ≤ 12) && decide (1 ≤ d) && decide ((d : Int) ≤ mlen y m)
def wOk (y w : Nat) : Bool := decide (1 ≤ w) && decide ((w : Int) ≤ weeksW y)

def dateP (l : List UInt8) : Option (Int × List UInt8) :=
  match yearP l with
  | none => none
  | some (y, r) => match sgn 45 r with
    | none => none
    | some r => match two r with
      | none => none
      | some (m, r) => match sgn 45 r with
        | none => none
        | some r => match two r with
          | none => none
          | some (d, r) => if dOk y m d then some (numD y m d * 86400000, r) else none
def monthP (l : List UInt8) : Option (Int × List UInt8) :=
  match yearP l with
  | none => none
  | some (y, r) => match sgn 45 r with
    | none => none
    | some r => match two r with
      | none => none
      | some (m, r) => if decide (1 ≤ m) && decide (m ≤ 12) then some (12 * ((y : Int) - 1970) + m - 1, r) else none
def weekP (l : List UInt8) : Option (Int × List UInt8) :=
  match yearP l with
  | none => none
  | some (y, r) => match sgn 45 r with
    | none => none
    | some r => match sgn 87 r with
      | none => none
      | some r => match two r with
        | none => none
        | some (w, r) => if wOk y w then some ((firstW y + 7 * ((w : Int) - 1)) * 86400000, r) else none
/-- one digit to three, as thousandths -/
def thou (l : List UInt8) : Option (Nat × List UInt8) :=
  let n := min (cnt l) 3
  if n = 0 then none else some (val (l.take n) * 10 ^ (3 - n), l.drop n)
/-- behind the seconds -/
def secT (n : Nat) (r : List UInt8) : Option (Int × List UInt8) :=
  if r.head? = some 46 then (match thou r.tail with
    | none => none
    | some (p, r2) => some (((n + p : Nat) : Int), r2)) else some ((n : Int), r)
def secP (n : Nat) (l : List UInt8) : Option (Int × List UInt8) :=
  match two l with
  | none => none
  | some (s, r) => if s < 60 then secT (n + 1000 * s) r else none
/-- behind the minutes -/
def minT (n : Nat) (r : List UInt8) : Option (Int × List UInt8) :=
  if r.head? = some 58 then secP n r.tail else some ((n : Int), r)
def timeP (l : List UInt8) : Option (Int × List UInt8) :=
  match two l with
  | none => none
  | some (h, r) => match sgn 58 r with
    | none => none
    | some r => match two r with
      | none => none
      | some (m, r) => if decide (h < 24) && decide (m < 60) then minT ((h * 60 + m) * 60000) r else none
def midP (l : List UInt8) : Option (List UInt8) := match l with
  | c :: r => if c = 32 ∨ c = 84 then some r else none
  | [] => none
def localP (l : List UInt8) : Option (Int × List UInt8) :=
  match dateP l with
  | none => none
  | some (d, r) => match midP r with
    | none => none
    | some r => match timeP r with
      | none => none
      | some (t, r) => some (d + t, r)
def partP (kind : Int) (l : List UInt8) : Option (Int × List UInt8) :=
  if kind = 1 then dateP l else if kind = 2 then monthP l else if kind = 3 then weekP l else if kind = 4 then timeP l else if kind = 5 then localP l else none
/-- all of a text -/
def whole (o : Option (Int × List UInt8)) : Option Int := match o with
  | some (v, []) => some v
  | _ => none
def parseM (kind : Int) (l : List UInt8) : Int × Int :=
  if kind < 1 ∨ 5 < kind then (0, 3) else match whole (partP kind l) with
  | some v => (v, 0)
  | none => (0, 1)

/-! canonical forms -/
theorem cnt_stop (ds r : List UInt8) (hd : allDig ds = true) (hr : cnt r = 0) : cnt (ds ++ r) = ds.length := by rw [cnt_append ds r hd, hr]; omega
theorem cnt_cons_no (c : UInt8) (r : List UInt8) (h : isDig c = false) : cnt (c :: r) = 0 := by rw [cnt, h]; rfl
theorem yearP_of (ds r : List UInt8) (hd : allDig ds = true) (hr : cnt r = 0) (h : yOk ds.length (val ds) = true) : yearP (ds ++ r) = some (val ds, r) := by
  unfold yearP
  rw [cnt_stop ds r hd hr, List.take_left, List.drop_left, if_pos h]
theorem yearP_form (l : List UInt8) (y : Nat) (r : List UInt8) (h : yearP l = some (y, r)) : ∃ ds, l = ds ++ r ∧ allDig ds = true ∧ yOk ds.length y = true ∧ y = val ds ∧ ds.length = cnt l := by
  unfold yearP at h
  split at h
  · rename_i g
    cases h
    have hl := cnt_le l
    refine ⟨l.take (cnt l), by rw [List.take_append_drop], cnt_take l, ?_, rfl, by rw [List.length_take]; omega⟩
    rw [List.length_take, Nat.min_eq_left hl]
    exact g
  · cases h
theorem sgn_form (c : UInt8) (l r : List UInt8) (h : sgn c l = some r) : l = c :: r := by
  cases l with
  | nil => cases h
  | cons d t =>
    have e : sgn c (d :: t) = if d = c then some t else none := rfl
    rw [e] at h
    by_cases g : d = c
    · rw [if_pos g] at h; cases h; rw [g]
    · rw [if_neg g] at h; cases h
theorem sgn_of (c : UInt8) (r : List UInt8) : sgn c (c :: r) = some r := by rw [sgn, if_pos rfl]
theorem two_form (l : List UInt8) (n : Nat) (r : List UInt8) (h : two l = some (n, r)) : ∃ a b, l = a :: b :: r ∧ isDig a = true ∧ isDig b = true ∧ n = dv a * 10 + dv b := by
  match l, h with
  | [], h => cases h
  | [a], h => cases h
  | a :: b :: t, h =>
    have e : two (a :: b :: t) = if (isDig a && isDig b) = true then some (dv a * 10 + dv b, t) else none := rfl
    rw [e] at h
    by_cases g : (isDig a && isDig b) = true
    · rw [if_pos g] at h
      rw [Bool.and_eq_true] at g
      cases h
      exact ⟨a, b, rfl, g.1, g.2, rfl⟩
    · rw [if_neg g] at h; cases h
theorem two_of (a b : UInt8) (r : List UInt8) (ha : isDig a = true) (hb : isDig b = true) : two (a :: b :: r) = some (dv a * 10 + dv b, r) := by rw [two, ha, hb]; rfl
theorem two_lt (l : List UInt8) (n : Nat) (r : List UInt8) (h : two l = some (n, r)) : n < 100 := by
  obtain ⟨a, b, _, ha, hb, rfl⟩ := two_form l n r h
  have := dv_le a ha
  have := dv_le b hb
  omega

theorem yearP_app (l : List UInt8) (y : Nat) (c : UInt8) (r q : List UInt8) (h : yearP l = some (y, c :: r)) : yearP (l ++ q) = some (y, c :: (r ++ q)) := by
  obtain ⟨ds, h1, h2, h3, h4, h5⟩ := yearP_form l y (c :: r) h
  have hc : isDig c = false := cnt_next l c r (by rw [← h5, h1, List.drop_left])
  rw [h1, List.append_assoc, h4]
  rw [h4] at h3
  rw [yearP_of ds (c :: r ++ q) h2 (cnt_cons_no c _ hc) h3]
  rfl
theorem two_app (l : List UInt8) (n : Nat) (r q : List UInt8) (h : two l = some (n, r)) : two (l ++ q) = some (n, r ++ q) := by
  obtain ⟨a, b, rfl, ha, hb, rfl⟩ := two_form l n r h
  show two (a :: b :: (r ++ q)) = _
  rw [two_of a b _ ha hb]
theorem dateP_form (l : List UInt8) (v : Int) (r : List UInt8) (h : dateP l = some (v, r)) :
    ∃ y m d r1 r2 r3 r4, yearP l = some (y, r1) ∧ r1 = 45 :: r2 ∧ two r2 = some (m, r3) ∧ r3 = 45 :: r4 ∧ two r4 = some (d, r) ∧ dOk y m d = true ∧ v = numD y m d * 86400000 := by
  unfold dateP at h
  split at h
  · cases h
  · rename_i y r1 e1
    split at h
    · cases h
    · rename_i r2 e2
      split at h
      · cases h
      · rename_i m r3 e3
        split at h
        · cases h
        · rename_i r4 e4
          split at h
          · cases h
          · rename_i d r5 e5
            split at h
            · rename_i g
              cases h
              exact ⟨y, m, d, r1, r2, r3, r4, e1, sgn_form _ _ _ e2, e3, sgn_form _ _ _ e4, e5, g, rfl⟩
            · cases h
theorem dateP_of (l : List UInt8) (y m d : Nat) (r1 r2 r3 r4 r : List UInt8) (h1 : yearP l = some (y, r1)) (h2 : r1 = 45 :: r2) (h3 : two r2 = some (m, r3)) (h4 : r3 = 45 :: r4) (h5 : two r4 = some (d, r)) (h6 : dOk y m d = true) :
    dateP l = some (numD y m d * 86400000, r) := by
  unfold dateP
  rw [h1]
  simp only [h2, sgn_of, h3, h4, h5, h6, if_true]
theorem dateP_app (l : List UInt8) (v : Int) (r q : List UInt8) (h : dateP l = some (v, r)) : dateP (l ++ q) = some (v, r ++ q) := by
  obtain ⟨y, m, d, r1, r2, r3, r4, h1, h2, h3, h4, h5, h6, rfl⟩ := dateP_form l v r h
  subst h2
  subst h4
  exact dateP_of (l ++ q) y m d (45 :: (r2 ++ q)) (r2 ++ q) (45 :: (r4 ++ q)) (r4 ++ q) (r ++ q) (yearP_app l y 45 r2 q h1) rfl (two_app r2 m (45 :: r4) q h3) rfl (two_app r4 d r q h5) h6

/-- neither T nor a blank stands in what a day's text has -/
def isMid (c : UInt8) : Bool := (c == 84) || (c == 32)
theorem dig_mid (c : UInt8) (h : isDig c = true) : isMid c = false := by
  have : ∀ n : Fin 256, isDig (UInt8.ofNat n.1) = true → isMid (UInt8.ofNat n.1) = false := by decide +kernel
  have g := this ⟨c.toNat, c.toNat_lt⟩
  simp only [UInt8.ofNat_toNat] at g
  exact g h
theorem date_mid (l : List UInt8) (v : Int) (r : List UInt8) (h : dateP l = some (v, r)) : ∃ p, l = p ++ r ∧ p.all (fun c => !isMid c) = true ∧ dateP p = some (v, []) := by
  obtain ⟨y, m, d, r1, r2, r3, r4, h1, h2, h3, h4, h5, h6, rfl⟩ := dateP_form l v r h
  obtain ⟨ds, k1, k2, k3, k4, _⟩ := yearP_form l y r1 h1
  obtain ⟨a, b, rfl, ha, hb, rfl⟩ := two_form r2 m r3 h3
  obtain ⟨a', b', rfl, ha', hb', rfl⟩ := two_form r4 d r h5
  subst h4
  subst h2
  refine ⟨ds ++ [45, a, b, 45, a', b'], by rw [k1]; simp, ?_, ?_⟩
  · rw [List.all_append, Bool.and_eq_true]
    constructor
    · rw [List.all_eq_true]
      intro c hc
      unfold allDig at k2
      rw [List.all_eq_true] at k2
      rw [dig_mid c (k2 c hc)]; rfl
    · simp only [List.all_cons, List.all_nil, dig_mid a ha, dig_mid b hb, dig_mid a' ha', dig_mid b' hb']
      decide
  · subst k4
    exact dateP_of _ (val ds) _ _ (45 :: [a, b, 45, a', b']) [a, b, 45, a', b'] (45 :: [a', b']) [a', b'] [] (yearP_of ds _ k2 (cnt_cons_no 45 _ (by decide)) k3) rfl (two_of a b _ ha hb) rfl (two_of a' b' _ ha' hb') h6
end Go.Proofs.YtbaloklcpfjmeaaGreatDoor.mom
