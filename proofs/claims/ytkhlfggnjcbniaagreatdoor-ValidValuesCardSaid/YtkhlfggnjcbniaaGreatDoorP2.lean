/- Plain laws on numbers as texts: what number.Parse, number.Show and the reference's Parse, Show compute, and that they agree. No program in sight. Moments as texts: what is read, what is shown: plain. No program in sight. Moments by places in the text, as the reference reads them; that is what is read from the front: plain. No program in sight. A time's text by places, and from the front; a day and a time: plain. No program in sight. -/
import Derived.Lib.ItoaNum
import Derived.Lib.SlTrimSet
import Derived.Test.YtkhlfggnjcbniaaGreatDoorP1
namespace Go.Proofs.YtkhlfggnjcbniaaGreatDoor.num
open Go.Lib

def isDig (c : UInt8) : Bool := 48 ≤ c && c ≤ 57
def allDig (l : List UInt8) : Bool := l.all isDig
/-- how many digits stand ahead -/
def cnt : List UInt8 → Nat
  | [] => 0
  | c :: l => if isDig c then cnt l + 1 else 0

theorem isDig_iff (c : UInt8) : isDig c = true ↔ 48 ≤ (c.toNat : Int) ∧ (c.toNat : Int) ≤ 57 := by
  unfold isDig
  simp [UInt8.le_iff_toNat_le]; omega
theorem isDig_no (c : UInt8) (h : isDig c = false) : (c.toNat : Int) < 48 ∨ 57 < (c.toNat : Int) := by
  have := isDig_iff c
  rw [h] at this
  simp at this; omega

theorem cnt_le (l : List UInt8) : cnt l ≤ l.length := by
  induction l with
  | nil => exact Nat.le_refl _
  | cons c l ih => unfold cnt; split <;> simp <;> omega

theorem allDig_cons (c : UInt8) (l : List UInt8) : allDig (c :: l) = (isDig c && allDig l) := rfl

theorem cnt_all (l : List UInt8) : cnt l = l.length ↔ allDig l = true := by
  induction l with
  | nil => simp [cnt, allDig]
  | cons c l ih =>
    have := cnt_le l
    rw [allDig_cons]
    unfold cnt
    cases h : isDig c
    · simp
    · simp [ih]

theorem cnt_take (l : List UInt8) : allDig (l.take (cnt l)) = true := by
  induction l with
  | nil => rfl
  | cons c l ih =>
    unfold cnt
    cases h : isDig c
    · simp [allDig]
    · simp [allDig_cons, h, ih]

theorem cnt_next (l : List UInt8) (c : UInt8) (r : List UInt8) (h : l.drop (cnt l) = c :: r) : isDig c = false := by
  induction l with
  | nil => simp [cnt] at h
  | cons d l ih =>
    unfold cnt at h
    cases hd : isDig d
    · simp [hd] at h; rw [← h.1]; exact hd
    · simp [hd] at h; exact ih h

/-- a number of digits, and no digit behind them -/
theorem cnt_append (a b : List UInt8) (ha : allDig a = true) : cnt (a ++ b) = a.length + cnt b := by
  induction a with
  | nil => simp
  | cons c a ih =>
    rw [allDig_cons] at ha
    simp at ha
    simp [cnt, ha.1, ih ha.2]; omega

/-- what digits tell -/
@[irreducible] def dv (c : UInt8) : Nat := c.toNat - 48
theorem dv_eq (c : UInt8) : dv c = c.toNat - 48 := by unfold dv; rfl
def valFrom (a : Nat) : List UInt8 → Nat
  | [] => a
  | c :: l => valFrom (a * 10 + dv c) l
def val (l : List UInt8) : Nat := valFrom 0 l

theorem valFrom_cons (a : Nat) (c : UInt8) (l : List UInt8) : valFrom a (c :: l) = valFrom (a * 10 + dv c) l := rfl
theorem valFrom_append (a : Nat) (l m : List UInt8) : valFrom a (l ++ m) = valFrom (valFrom a l) m := by
  induction l generalizing a with
  | nil => rfl
  | cons c l ih => rw [List.cons_append, valFrom_cons, valFrom_cons, ih]
theorem valFrom_mul (l : List UInt8) : ∀ a : Nat, valFrom a l = a * 10 ^ l.length + val l := by
  induction l with
  | nil => intro a; simp [valFrom, val]
  | cons c l ih =>
    intro a
    unfold val
    rw [valFrom_cons, valFrom_cons, ih, ih, List.length_cons, Nat.pow_succ]
    generalize 10 ^ l.length = p
    generalize dv c = d
    rw [Nat.add_mul, Nat.add_mul, Nat.zero_mul, Nat.zero_add, Nat.mul_assoc, Nat.mul_comm 10 p, Nat.add_assoc]
theorem valFrom_ge (a : Nat) (l : List UInt8) : a ≤ valFrom a l := by
  rw [valFrom_mul]
  have : 1 ≤ 10 ^ l.length := Nat.one_le_pow _ _ (by decide)
  have := Nat.mul_le_mul_left a this
  omega
theorem val_lt (l : List UInt8) (h : allDig l = true) : val l < 10 ^ l.length := by
  induction l with
  | nil => simp [val, valFrom]
  | cons c l ih =>
    rw [allDig_cons] at h
    simp at h
    have h1 := ih h.2
    have h2 := (isDig_iff c).1 h.1
    have e : val (c :: l) = dv c * 10 ^ l.length + val l := by
      unfold val
      rw [valFrom_cons, valFrom_mul, Nat.zero_mul, Nat.zero_add]; rfl
    rw [e, List.length_cons, Nat.pow_succ]
    have h3 : dv c ≤ 9 := by rw [dv_eq]; omega
    have := Nat.mul_le_mul_right (10 ^ l.length) h3
    omega

/-- without the noughts at the end -/
def strip : List UInt8 → List UInt8
  | [] => []
  | c :: l => if strip l = [] ∧ c = 48 then [] else c :: strip l

theorem strip_snoc (l : List UInt8) (c : UInt8) : strip (l ++ [c]) = if c = 48 then strip l else l ++ [c] := by
  induction l with
  | nil => by_cases h : c = 48 <;> simp [strip, h]
  | cons d l ih =>
    by_cases h : c = 48
    · rw [if_pos h] at ih
      rw [if_pos h, List.cons_append, strip, strip, ih]
    · rw [if_neg h] at ih
      rw [if_neg h, List.cons_append, strip, ih]; simp

theorem strip_trim (l : List UInt8) : trimRightS l [48] = strip l := by
  have h : ∀ m : List UInt8, (m.dropWhile ([48].contains ·)).reverse = strip m.reverse := by
    intro m
    induction m with
    | nil => rfl
    | cons c m ih =>
      rw [List.reverse_cons, strip_snoc, List.dropWhile_cons]
      by_cases hc : c = 48
      · subst hc
        simpa using ih
      · simp [hc]
  unfold trimRightS
  rw [h, List.reverse_reverse]

theorem strip_le (l : List UInt8) : (strip l).length ≤ l.length := by
  induction l with
  | nil => simp [strip]
  | cons c l ih => unfold strip; split <;> simp; omega

theorem strip_pre (l : List UInt8) : ∃ k, l = strip l ++ List.replicate k 48 := by
  induction l with
  | nil => exact ⟨0, rfl⟩
  | cons c l ih =>
    obtain ⟨k, hk⟩ := ih
    unfold strip
    by_cases h : strip l = [] ∧ c = 48
    · rw [if_pos h]; refine ⟨k + 1, ?_⟩
      rw [h.1] at hk; rw [h.2, List.nil_append, List.replicate_succ, ← List.nil_append (List.replicate k 48), ← hk]
    · rw [if_neg h]; exact ⟨k, by rw [List.cons_append, ← hk]⟩

theorem strip_dig (l : List UInt8) (h : allDig l = true) : allDig (strip l) = true := by
  induction l with
  | nil => rfl
  | cons c l ih =>
    rw [allDig_cons] at h
    simp at h
    unfold strip
    split
    · rfl
    · rw [allDig_cons, h.1, ih h.2]; rfl

/-- 'strings.Trim(s, digits) == ""' -/
def digs : List UInt8 := [48, 49, 50, 51, 52, 53, 54, 55, 56, 57]
theorem digs_has (c : UInt8) : digs.contains c = isDig c := by
  have : ∀ n : Fin 256, digs.contains (UInt8.ofNat n.1) = isDig (UInt8.ofNat n.1) := by decide +kernel
  have h := this ⟨c.toNat, c.toNat_lt⟩
  simpa using h

theorem dropWhile_nil (p : UInt8 → Bool) (l : List UInt8) : l.dropWhile p = [] ↔ l.all p = true := by
  induction l with
  | nil => simp
  | cons c l ih => rw [List.dropWhile_cons]; cases h : p c <;> simp [h, ih]

theorem trim_digs (l : List UInt8) : trimS l digs = [] ↔ allDig l = true := by
  have e : (fun c => digs.contains c) = isDig := funext digs_has
  unfold trimS trimLeftS trimRightS allDig
  rw [e]
  constructor
  · intro h
    have h1 := (dropWhile_nil _ _).1 h
    rw [List.all_reverse] at h1
    have : ∀ m : List UInt8, (m.dropWhile isDig).all isDig = true → m.all isDig = true := by
      intro m
      induction m with
      | nil => simp
      | cons c m ih => rw [List.dropWhile_cons]; cases hc : isDig c <;> simp [hc]; simpa using ih
    have h2 := this _ h1
    rwa [List.all_reverse] at h2
  · intro h
    have h1 : l.reverse.dropWhile isDig = [] := (dropWhile_nil _ _).2 (by rw [List.all_reverse]; exact h)
    rw [h1]; rfl


theorem val_cons (c : UInt8) (l : List UInt8) : val (c :: l) = dv c * 10 ^ l.length + val l := by
  unfold val
  rw [valFrom_cons, valFrom_mul, Nat.zero_mul, Nat.zero_add]; rfl
theorem val_nil : val [] = 0 := rfl
theorem val_append (l m : List UInt8) : val (l ++ m) = val l * 10 ^ m.length + val m := by
  unfold val; rw [valFrom_append, valFrom_mul]; rfl
theorem dv_zero : dv 48 = 0 := by rw [dv_eq]; rfl
theorem dv_le (c : UInt8) (h : isDig c = true) : dv c ≤ 9 := by
  have := (isDig_iff c).1 h
  rw [dv_eq]; omega
theorem val_zeros (k : Nat) : val (List.replicate k 48) = 0 := by
  induction k with
  | zero => rfl
  | succ k ih => rw [List.replicate_succ, val_cons, ih, dv_zero]; simp

/-- the digits behind the point, as the reference goes through them -/
def fr (mx : Bool) (i : Nat) (out unit : Nat) : List UInt8 → Option Nat
  | [] => some out
  | c :: p => if dv c ≠ 0 ∧ (mx = true ∨ 6 ≤ i) then none else fr mx (i + 1) (out + dv c * unit) (unit / 10) p

/-- the number of a text whose form is right: h ahead of the point, p behind it -/
def fin (neg : Bool) (h p : List UInt8) : Int × Int :=
  if val h ≤ 1000000000000 ∧ ¬ (val h = 1000000000000 ∧ strip p ≠ []) ∧ (strip p).length ≤ 6 then
    let v : Int := ((val h * 1000000 + val (strip p) * 10 ^ (6 - (strip p).length) : Nat) : Int)
    (if neg then -v else v, 0)
  else (0, 2)

/-- what stands behind a '-' -/
def unsigned (l : List UInt8) : List UInt8 := if l.head? = some 45 then l.tail else l
def negB (l : List UInt8) : Bool := l.head? == some 45

def parseT (neg : Bool) (t : List UInt8) : Int × Int :=
  match t.drop (cnt t) with
  | [] => if cnt t = 0 then (0, 1) else fin neg t []
  | c :: p => if c = 46 ∧ p ≠ [] ∧ allDig p = true then fin neg (t.take (cnt t)) p else (0, 1)

/-- P3.1 -/
def parseS (l : List UInt8) : Int × Int := parseT (negB l) (unsigned l)


theorem unsigned_le (l : List UInt8) : (unsigned l).length ≤ l.length := by unfold unsigned; split <;> simp

theorem take_snoc' (t : List UInt8) (i : Nat) (c : UInt8) (r : List UInt8) (h : t.drop i = c :: r) : t.take (i + 1) = t.take i ++ [c] := by
  have hi : i < t.length := by
    apply Nat.lt_of_not_le; intro g
    rw [List.drop_eq_nil_of_le g] at h; cases h
  rw [List.drop_eq_getElem_cons hi] at h
  rw [List.take_succ_eq_append_getElem hi, (List.cons.inj h).1]

theorem dig_at (t : List UInt8) (i : Nat) (c : UInt8) (r : List UInt8) (h : t.drop i = c :: r) (hi : i < cnt t) : isDig c = true := by
  induction t generalizing i with
  | nil => simp at h
  | cons d t ih =>
    unfold cnt at hi
    cases hd : isDig d
    · simp [hd] at hi
    · simp [hd] at hi
      cases i with
      | zero => simp at h; rw [← h.1]; exact hd
      | succ i => exact ih i (by simpa using h) (by omega)

theorem dig_all (t : List UInt8) (i : Nat) (c : UInt8) (r : List UInt8) (h : t.drop i = c :: r) (hd : allDig t = true) : isDig c = true := by
  refine dig_at t i c r h ?_
  rw [(cnt_all t).2 hd]
  apply Nat.lt_of_not_le; intro g
  rw [List.drop_eq_nil_of_le g] at h; cases h

/-- a byte's test, as the walk writes it -/
theorem byteq (c d : UInt8) (n : Int) (h : (d.toNat : Int) = n) : ((c.toNat : Int) == n) = (c == d) := by
  subst h
  rw [Bool.eq_iff_iff]
  simp only [beq_iff_eq]
  constructor
  · intro h; exact UInt8.toNat_inj.1 (by omega)
  · rintro rfl; rfl

theorem parseT_nil (neg : Bool) (t : List UInt8) (h : t.drop (cnt t) = []) : parseT neg t = if cnt t = 0 then (0, 1) else fin neg (t.take (cnt t)) [] := by
  have h1 : t.take (cnt t) = t := List.take_of_length_le (by have := congrArg List.length h; simp at this; omega)
  unfold parseT; rw [h, h1]
theorem parseT_cons (neg : Bool) (t : List UInt8) (c : UInt8) (p : List UInt8) (h : t.drop (cnt t) = c :: p) : parseT neg t = if c = 46 ∧ p ≠ [] ∧ allDig p = true then fin neg (t.take (cnt t)) p else (0, 1) := by
  unfold parseT; rw [h]

theorem byte_at (l : List UInt8) (i : Nat) (h : i < l.length) : ∃ c rest, l.drop i = c :: rest ∧ l.drop (i + 1) = rest ∧ ∀ h', (⟨l.toArray⟩ : ByteArray)[i]'h' = c :=
  ⟨l[i], l.drop (i + 1), List.drop_eq_getElem_cons h, rfl, fun _ => rfl⟩

end Go.Proofs.YtkhlfggnjcbniaaGreatDoor.num
namespace Go.Proofs.YtkhlfggnjcbniaaGreatDoor.mom
open Go.Lib Go.Proofs.YtkhlfggnjcbniaaGreatDoor.num Go.Proofs.YtkhlfggnjcbniaaGreatDoor.cal

/-- two digits ahead: their number, and the rest -/
def two : List UInt8 → Option (Nat × List UInt8)
  | a :: b :: r => if isDig a && isDig b then some (dv a * 10 + dv b, r) else none
  | _ => none
def sgn (c : UInt8) : List UInt8 → Option (List UInt8)
  | d :: r => if d = c then some r else none
  | [] => none
def yOk (n y : Nat) : Bool := decide (4 ≤ n) && (decide (1 ≤ y) && decide (y ≤ 275760))
def yearP (l : List UInt8) : Option (Nat × List UInt8) :=
  if yOk (cnt l) (val (l.take (cnt l))) then some (val (l.take (cnt l)), l.drop (cnt l)) else none
/-- is there such a day? -/
def dOk (y m d : Nat) : Bool := decide (1 ≤ m) && decide (m ≤ 12) && decide (1 ≤ d) && decide ((d : Int) ≤ mlen y m)
def wOk (y w : Nat) : Bool := decide (1 ≤ w) && decide ((w : Int) ≤ weeksW y)

def dateP (l : List UInt8) : Option (Int × List UInt8) :=
  match yearP l with
  | none => none
  | some (y, r) => match sgn 45 r with
    | none => none
    | some r => match two r with
      | none => none
      | some (m, r) => match sgn 45 r with
        | none => none
        | some r => match two r with
          | none => none
          | some (d, r) => if dOk y m d then some (numD y m d * 86400000, r) else none
def monthP (l : List UInt8) : Option (Int × List UInt8) :=
  match yearP l with
  | none => none
  | some (y, r) => match sgn 45 r with
    | none => none
    | some r => match two r with
      | none => none
      | some (m, r) => if decide (1 ≤ m) && decide (m ≤ 12) then some (12 * ((y : Int) - 1970) + m - 1, r) else none
def weekP (l : List UInt8) : Option (Int × List UInt8) :=
  match yearP l with
  | none => none
  | some (y, r) => match sgn 45 r with
    | none => none
    | some r => match sgn 87 r with
      | none => none
      | some r => match two r with
        | none => none
        | some (w, r) => if wOk y w then some ((firstW y + 7 * ((w : Int) - 1)) * 86400000, r) else none
/-- one digit to three, as thousandths -/
def thou (l : List UInt8) : Option (Nat × List UInt8) :=
  let n := min (cnt l) 3
  if n = 0 then none else some (val (l.take n) * 10 ^ (3 - n), l.drop n)
/-- behind the seconds -/
def secT (n : Nat) (r : List UInt8) : Option (Int × List UInt8) :=
  if r.head? = some 46 then (match thou r.tail with
    | none => none
    | some (p, r2) => some (((n + p : Nat) : Int), r2)) else some ((n : Int), r)
def secP (n : Nat) (l : List UInt8) : Option (Int × List UInt8) :=
  match two l with
  | none => none
  | some (s, r) => if s < 60 then secT (n + 1000 * s) r else none
/-- behind the minutes -/
def minT (n : Nat) (r : List UInt8) : Option (Int × List UInt8) :=
  if r.head? = some 58 then secP n r.tail else some ((n : Int), r)
def timeP (l : List UInt8) : Option (Int × List UInt8) :=
  match two l with
  | none => none
  | some (h, r) => match sgn 58 r with
    | none => none
    | some r => match two r with
      | none => none
      | some (m, r) => if decide (h < 24) && decide (m < 60) then minT ((h * 60 + m) * 60000) r else none
def midP (l : List UInt8) : Option (List UInt8) := match l with
  | c :: r => if c = 32 ∨ c = 84 then some r else none
  | [] => none
def localP (l : List UInt8) : Option (Int × List UInt8) :=
  match dateP l with
  | none => none
  | some (d, r) => match midP r with
    | none => none
    | some r => match timeP r with
      | none => none
      | some (t, r) => some (d + t, r)
def partP (kind : Int) (l : List UInt8) : Option (Int × List UInt8) :=
  if kind = 1 then dateP l else if kind = 2 then monthP l else if kind = 3 then weekP l else if kind = 4 then timeP l else if kind = 5 then localP l else none
/-- all of a text -/
def whole (o : Option (Int × List UInt8)) : Option Int := match o with
  | some (v, []) => some v
  | _ => none
def parseM (kind : Int) (l : List UInt8) : Int × Int :=
  if kind < 1 ∨ 5 < kind then (0, 3) else match whole (partP kind l) with
  | some v => (v, 0)
  | none => (0, 1)

theorem cnt_stop (ds r : List UInt8) (hd : allDig ds = true) (hr : cnt r = 0) : cnt (ds ++ r) = ds.length := by rw [cnt_append ds r hd, hr]; omega
theorem cnt_cons_no (c : UInt8) (r : List UInt8) (h : isDig c = false) : cnt (c :: r) = 0 := by rw [cnt, h]; rfl
theorem yearP_of (ds r : List UInt8) (hd : allDig ds = true) (hr : cnt r = 0) (h : yOk ds.length (val ds) = true) : yearP (ds ++ r) = some (val ds, r) := by
  unfold yearP
  rw [cnt_stop ds r hd hr, List.take_left, List.drop_left, if_pos h]
theorem yearP_form (l : List UInt8) (y : Nat) (r : List UInt8) (h : yearP l = some (y, r)) : ∃ ds, l = ds ++ r ∧ allDig ds = true ∧ yOk ds.length y = true ∧ y = val ds ∧ ds.length = cnt l := by
  unfold yearP at h
  split at h
  · rename_i g
    cases h
    have hl := cnt_le l
    refine ⟨l.take (cnt l), by rw [List.take_append_drop], cnt_take l, ?_, rfl, by rw [List.length_take]; omega⟩
    rw [List.length_take, Nat.min_eq_left hl]
    exact g
  · cases h
theorem sgn_form (c : UInt8) (l r : List UInt8) (h : sgn c l = some r) : l = c :: r := by
  cases l with
  | nil => cases h
  | cons d t =>
    have e : sgn c (d :: t) = if d = c then some t else none := rfl
    rw [e] at h
    by_cases g : d = c
    · rw [if_pos g] at h; cases h; rw [g]
    · rw [if_neg g] at h; cases h
theorem sgn_of (c : UInt8) (r : List UInt8) : sgn c (c :: r) = some r := by rw [sgn, if_pos rfl]
theorem two_form (l : List UInt8) (n : Nat) (r : List UInt8) (h : two l = some (n, r)) : ∃ a b, l = a :: b :: r ∧ isDig a = true ∧ isDig b = true ∧ n = dv a * 10 + dv b := by
  match l, h with
  | [], h => cases h
  | [a], h => cases h
  | a :: b :: t, h =>
    have e : two (a :: b :: t) = if (isDig a && isDig b) = true then some (dv a * 10 + dv b, t) else none := rfl
    rw [e] at h
    by_cases g : (isDig a && isDig b) = true
    · rw [if_pos g] at h
      rw [Bool.and_eq_true] at g
      cases h
      exact ⟨a, b, rfl, g.1, g.2, rfl⟩
    · rw [if_neg g] at h; cases h
theorem two_of (a b : UInt8) (r : List UInt8) (ha : isDig a = true) (hb : isDig b = true) : two (a :: b :: r) = some (dv a * 10 + dv b, r) := by rw [two, ha, hb]; rfl
theorem two_lt (l : List UInt8) (n : Nat) (r : List UInt8) (h : two l = some (n, r)) : n < 100 := by
  obtain ⟨a, b, _, ha, hb, rfl⟩ := two_form l n r h
  have := dv_le a ha
  have := dv_le b hb
  omega

theorem yearP_app (l : List UInt8) (y : Nat) (c : UInt8) (r q : List UInt8) (h : yearP l = some (y, c :: r)) : yearP (l ++ q) = some (y, c :: (r ++ q)) := by
  obtain ⟨ds, h1, h2, h3, h4, h5⟩ := yearP_form l y (c :: r) h
  have hc : isDig c = false := cnt_next l c r (by rw [← h5, h1, List.drop_left])
  rw [h1, List.append_assoc, h4]
  rw [h4] at h3
  rw [yearP_of ds (c :: r ++ q) h2 (cnt_cons_no c _ hc) h3]
  rfl
theorem two_app (l : List UInt8) (n : Nat) (r q : List UInt8) (h : two l = some (n, r)) : two (l ++ q) = some (n, r ++ q) := by
  obtain ⟨a, b, rfl, ha, hb, rfl⟩ := two_form l n r h
  show two (a :: b :: (r ++ q)) = _
  rw [two_of a b _ ha hb]
theorem dateP_form (l : List UInt8) (v : Int) (r : List UInt8) (h : dateP l = some (v, r)) :
    ∃ y m d r1 r2 r3 r4, yearP l = some (y, r1) ∧ r1 = 45 :: r2 ∧ two r2 = some (m, r3) ∧ r3 = 45 :: r4 ∧ two r4 = some (d, r) ∧ dOk y m d = true ∧ v = numD y m d * 86400000 := by
  unfold dateP at h
  split at h
  · cases h
  · rename_i y r1 e1
    split at h
    · cases h
    · rename_i r2 e2
      split at h
      · cases h
      · rename_i m r3 e3
        split at h
        · cases h
        · rename_i r4 e4
          split at h
          · cases h
          · rename_i d r5 e5
            split at h
            · rename_i g
              cases h
              exact ⟨y, m, d, r1, r2, r3, r4, e1, sgn_form _ _ _ e2, e3, sgn_form _ _ _ e4, e5, g, rfl⟩
            · cases h
theorem dateP_of (l : List UInt8) (y m d : Nat) (r1 r2 r3 r4 r : List UInt8) (h1 : yearP l = some (y, r1)) (h2 : r1 = 45 :: r2) (h3 : two r2 = some (m, r3)) (h4 : r3 = 45 :: r4) (h5 : two r4 = some (d, r)) (h6 : dOk y m d = true) :
    dateP l = some (numD y m d * 86400000, r) := by
  unfold dateP
  rw [h1]
  simp only [h2, sgn_of, h3, h4, h5, h6, if_true]
theorem dateP_app (l : List UInt8) (v : Int) (r q : List UInt8) (h : dateP l = some (v, r)) : dateP (l ++ q) = some (v, r ++ q) := by
  obtain ⟨y, m, d, r1, r2, r3, r4, h1, h2, h3, h4, h5, h6, rfl⟩ := dateP_form l v r h
  subst h2
  subst h4
  exact dateP_of (l ++ q) y m d (45 :: (r2 ++ q)) (r2 ++ q) (45 :: (r4 ++ q)) (r4 ++ q) (r ++ q) (yearP_app l y 45 r2 q h1) rfl (two_app r2 m (45 :: r4) q h3) rfl (two_app r4 d r q h5) h6

/-- neither T nor a blank stands in what a day's text has -/
def isMid (c : UInt8) : Bool := (c == 84) || (c == 32)
end Go.Proofs.YtkhlfggnjcbniaaGreatDoor.mom
namespace Go.Proofs.YtkhlfggnjcbniaaGreatDoor.mom
open Go.Lib Go.Proofs.YtkhlfggnjcbniaaGreatDoor.num Go.Proofs.YtkhlfggnjcbniaaGreatDoor.cal
def yearR (l : List UInt8) : Nat × Nat := if yOk (cnt l) (val (l.take (cnt l))) then (val (l.take (cnt l)), cnt l) else (0, 0)
def dOkI (y m d : Int) : Prop := 1 ≤ y ∧ y ≤ 275760 ∧ 1 ≤ m ∧ m ≤ 12 ∧ 1 ≤ d ∧ d ≤ mlen y m
instance (y m d : Int) : Decidable (dOkI y m d) := by unfold dOkI; infer_instance
def wOkI (y w : Int) : Prop := 1 ≤ y ∧ y ≤ 275760 ∧ 1 ≤ w ∧ w ≤ weeksW y
instance (y w : Int) : Decidable (wOkI y w) := by unfold wOkI; infer_instance
theorem yearR_some (l : List UInt8) (y : Nat) (r : List UInt8) (h : yearP l = some (y, r)) : ∃ ds, l = ds ++ r ∧ yearR l = (y, ds.length) ∧ 4 ≤ ds.length ∧ 1 ≤ y ∧ y ≤ 275760 := by
  obtain ⟨ds, h1, h2, h3, h4, h5⟩ := yearP_form l y r h
  refine ⟨ds, h1, ?_, ?_⟩
  · unfold yearP at h
    unfold yearR
    split at h
    · rename_i g
      rw [if_pos g]
      cases h
      rw [h5]
    · cases h
  · unfold yOk at h3
    simp only [Bool.and_eq_true, decide_eq_true_eq] at h3
    omega
end Go.Proofs.YtkhlfggnjcbniaaGreatDoor.mom
namespace Go.Proofs.YtkhlfggnjcbniaaGreatDoor.mom
open Go.Lib Go.Proofs.YtkhlfggnjcbniaaGreatDoor.num Go.Proofs.YtkhlfggnjcbniaaGreatDoor.cal
theorem mid_iff (c : UInt8) : isMid c = true ↔ (c = 32 ∨ c = 84) := by
  unfold isMid
  simp only [Bool.or_eq_true, beq_iff_eq]
  exact Or.comm

theorem localP_form (l : List UInt8) (v : Int) (r : List UInt8) (h : localP l = some (v, r)) : ∃ d r1 c r2 t, dateP l = some (d, r1) ∧ r1 = c :: r2 ∧ isMid c = true ∧ timeP r2 = some (t, r) ∧ v = d + t := by
  unfold localP at h
  split at h
  · cases h
  · rename_i d r1 e1
    split at h
    · cases h
    · rename_i r2 e2
      split at h
      · cases h
      · rename_i t r3 e3
        cases h
        cases r1 with
        | nil => cases e2
        | cons c q =>
          have e : midP (c :: q) = if c = 32 ∨ c = 84 then some q else none := rfl
          rw [e] at e2
          by_cases g : c = 32 ∨ c = 84
          · rw [if_pos g] at e2
            cases e2
            exact ⟨d, _, c, _, t, e1, rfl, (mid_iff c).2 g, e3, rfl⟩
          · rw [if_neg g] at e2; cases e2

theorem localP_of (l : List UInt8) (d t : Int) (c : UInt8) (r2 r : List UInt8) (h1 : dateP l = some (d, c :: r2)) (hc : isMid c = true) (h2 : timeP r2 = some (t, r)) : localP l = some (d + t, r) := by
  unfold localP
  rw [h1]
  have e : midP (c :: r2) = if c = 32 ∨ c = 84 then some r2 else none := rfl
  dsimp only
  rw [e, if_pos ((mid_iff c).1 hc)]
  dsimp only
  rw [h2]

end Go.Proofs.YtkhlfggnjcbniaaGreatDoor.mom
