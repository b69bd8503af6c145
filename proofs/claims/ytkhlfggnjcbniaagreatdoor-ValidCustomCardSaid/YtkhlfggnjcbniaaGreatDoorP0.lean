/- A part of the proofs: lemmas and contracts. -/
import Derived.Lib.Hide
import Derived.Lib.ItoaNum
import Derived.Lib.SlTrimSet
import Derived.ProofKit
import Derived.WalkKit
import Derived.Test.YtkhlfggnjcbniaaGreatDoorRows
set_option maxHeartbeats 12800000
set_option maxRecDepth 1000000
namespace Go.Proofs.YtkhlfggnjcbniaaGreatDoor.num
open Go.Lib

def isDig (c : UInt8) : Bool := 48 ≤ c && c ≤ 57
def allDig (l : List UInt8) : Bool := l.all isDig
def cnt : List UInt8 → Nat
 | [] => 0
 | c :: l => if isDig c then cnt l + 1 else 0

theorem isDig_iff (c : UInt8) : isDig c = true ↔ 48 ≤ (c.toNat : Int) ∧ (c.toNat : Int) ≤ 57 := by
 unfold isDig
 simp [UInt8.le_iff_toNat_le]; omega
theorem isDig_no (c : UInt8) (h : isDig c = false) : (c.toNat : Int) < 48 ∨ 57 < (c.toNat : Int) := by
 have := isDig_iff c
 rw [h] at this
 simp at this; omega

theorem cnt_le (l : List UInt8) : cnt l ≤ l.length := by
 induction l with
 | nil => exact Nat.le_refl _
 | cons c l ih => unfold cnt; split <;> simp <;> omega

theorem allDig_cons (c : UInt8) (l : List UInt8) : allDig (c :: l) = (isDig c && allDig l) := rfl

theorem cnt_all (l : List UInt8) : cnt l = l.length ↔ allDig l = true := by
 induction l with
 | nil => simp [cnt, allDig]
 | cons c l ih =>
  have := cnt_le l
  rw [allDig_cons]
  unfold cnt
  cases h : isDig c
  ·simp
  ·simp [ih]

theorem cnt_take (l : List UInt8) : allDig (l.take (cnt l)) = true := by
 induction l with
 | nil => rfl
 | cons c l ih =>
  unfold cnt
  cases h : isDig c
  ·simp [allDig]
  ·simp [allDig_cons, h, ih]

theorem cnt_append (a b : List UInt8) (ha : allDig a = true) : cnt (a ++ b) = a.length + cnt b := by
 induction a with
 | nil => simp
 | cons c a ih =>
  rw [allDig_cons] at ha
  simp at ha
  simp [cnt, ha.1, ih ha.2]; omega

@[irreducible] def dv (c : UInt8) : Nat := c.toNat - 48
theorem dv_eq (c : UInt8) : dv c = c.toNat - 48 := by unfold dv; rfl
def valFrom (a : Nat) : List UInt8 → Nat
 | [] => a
 | c :: l => valFrom (a * 10 + dv c) l
def val (l : List UInt8) : Nat := valFrom 0 l

theorem valFrom_cons (a : Nat) (c : UInt8) (l : List UInt8) : valFrom a (c :: l) = valFrom (a * 10 + dv c) l := rfl
theorem valFrom_append (a : Nat) (l m : List UInt8) : valFrom a (l ++ m) = valFrom (valFrom a l) m := by
 induction l generalizing a with
 | nil => rfl
 | cons c l ih => rw [List.cons_append, valFrom_cons, valFrom_cons, ih]
theorem valFrom_mul (l : List UInt8) : ∀ a : Nat, valFrom a l = a * 10 ^ l.length + val l := by
 induction l with
 | nil => intro a; simp [valFrom, val]
 | cons c l ih =>
  intro a
  unfold val
  rw [valFrom_cons, valFrom_cons, ih, ih, List.length_cons, Nat.pow_succ]
  generalize 10 ^ l.length = p
  generalize dv c = d
  rw [Nat.add_mul, Nat.add_mul, Nat.zero_mul, Nat.zero_add, Nat.mul_assoc, Nat.mul_comm 10 p, Nat.add_assoc]
theorem valFrom_ge (a : Nat) (l : List UInt8) : a ≤ valFrom a l := by
 rw [valFrom_mul]
 have : 1 ≤ 10 ^ l.length := Nat.one_le_pow _ _ (by decide)
 have := Nat.mul_le_mul_left a this
 omega
theorem val_lt (l : List UInt8) (h : allDig l = true) : val l < 10 ^ l.length := by
 induction l with
 | nil => simp [val, valFrom]
 | cons c l ih =>
  rw [allDig_cons] at h
  simp at h
  have h1 := ih h.2
  have h2 := (isDig_iff c).1 h.1
  have e : val (c :: l) = dv c * 10 ^ l.length + val l := by
   unfold val
   rw [valFrom_cons, valFrom_mul, Nat.zero_mul, Nat.zero_add]; rfl
  rw [e, List.length_cons, Nat.pow_succ]
  have h3 : dv c ≤ 9 := by rw [dv_eq]; omega
  have := Nat.mul_le_mul_right (10 ^ l.length) h3
  omega

def strip : List UInt8 → List UInt8
 | [] => []
 | c :: l => if strip l = [] ∧ c = 48 then [] else c :: strip l

theorem strip_snoc (l : List UInt8) (c : UInt8) : strip (l ++ [c]) = if c = 48 then strip l else l ++ [c] := by
 induction l with
 | nil => by_cases h : c = 48 <;> simp [strip, h]
 | cons d l ih =>
  by_cases h : c = 48
  ·rw [if_pos h] at ih
   rw [if_pos h, List.cons_append, strip, strip, ih]
  ·rw [if_neg h] at ih
   rw [if_neg h, List.cons_append, strip, ih]; simp

theorem strip_trim (l : List UInt8) : trimRightS l [48] = strip l := by
 have h : ∀ m : List UInt8, (m.dropWhile ([48].contains ·)).reverse = strip m.reverse := by
  intro m
  induction m with
  | nil => rfl
  | cons c m ih =>
   rw [List.reverse_cons, strip_snoc, List.dropWhile_cons]
   by_cases hc : c = 48
   ·subst hc
    simpa using ih
   ·simp [hc]
 unfold trimRightS
 rw [h, List.reverse_reverse]

theorem strip_le (l : List UInt8) : (strip l).length ≤ l.length := by
 induction l with
 | nil => simp [strip]
 | cons c l ih => unfold strip; split <;> simp; omega

theorem strip_dig (l : List UInt8) (h : allDig l = true) : allDig (strip l) = true := by
 induction l with
 | nil => rfl
 | cons c l ih =>
  rw [allDig_cons] at h
  simp at h
  unfold strip
  split
  ·rfl
  ·rw [allDig_cons, h.1, ih h.2]; rfl

def digs : List UInt8 := [48, 49, 50, 51, 52, 53, 54, 55, 56, 57]
theorem digs_has (c : UInt8) : digs.contains c = isDig c := by
 have : ∀ n : Fin 256, digs.contains (UInt8.ofNat n.1) = isDig (UInt8.ofNat n.1) := by decide +kernel
 have h := this ⟨c.toNat, c.toNat_lt⟩
 simpa using h

theorem dropWhile_nil (p : UInt8 → Bool) (l : List UInt8) : l.dropWhile p = [] ↔ l.all p = true := by
 induction l with
 | nil => simp
 | cons c l ih => rw [List.dropWhile_cons]; cases h : p c <;> simp [h, ih]

theorem trim_digs (l : List UInt8) : trimS l digs = [] ↔ allDig l = true := by
 have e : (fun c => digs.contains c) = isDig := funext digs_has
 unfold trimS trimLeftS trimRightS allDig
 rw [e]
 constructor
 ·intro h
  have h1 := (dropWhile_nil _ _).1 h
  rw [List.all_reverse] at h1
  have : ∀ m : List UInt8, (m.dropWhile isDig).all isDig = true → m.all isDig = true := by
   intro m
   induction m with
   | nil => simp
   | cons c m ih => rw [List.dropWhile_cons]; cases hc : isDig c <;> simp [hc]; simpa using ih
  have h2 := this _ h1
  rwa [List.all_reverse] at h2
 ·intro h
  have h1 : l.reverse.dropWhile isDig = [] := (dropWhile_nil _ _).2 (by rw [List.all_reverse]; exact h)
  rw [h1]; rfl


theorem val_cons (c : UInt8) (l : List UInt8) : val (c :: l) = dv c * 10 ^ l.length + val l := by
 unfold val
 rw [valFrom_cons, valFrom_mul, Nat.zero_mul, Nat.zero_add]; rfl
theorem val_nil : val [] = 0 := rfl
theorem val_append (l m : List UInt8) : val (l ++ m) = val l * 10 ^ m.length + val m := by
 unfold val; rw [valFrom_append, valFrom_mul]; rfl
theorem dv_zero : dv 48 = 0 := by rw [dv_eq]; rfl
theorem dv_le (c : UInt8) (h : isDig c = true) : dv c ≤ 9 := by
 have := (isDig_iff c).1 h
 rw [dv_eq]; omega
theorem val_zeros (k : Nat) : val (List.replicate k 48) = 0 := by
 induction k with
 | zero => rfl
 | succ k ih => rw [List.replicate_succ, val_cons, ih, dv_zero]; simp

theorem strip_zero (p : List UInt8) (h : strip p = []) : strip (48 :: p) = [] := by rw [strip, if_pos ⟨h, rfl⟩]
theorem strip_keep (c : UInt8) (p : List UInt8) (h : strip p ≠ [] ∨ c ≠ 48) : strip (c :: p) = c :: strip p := by
 rw [strip, if_neg]; rintro ⟨h1, h2⟩; rcases h with h | h
 ·exact h h1
 ·exact h h2

def fin (neg : Bool) (h p : List UInt8) : Int × Int :=
 if val h ≤ 1000000000000 ∧ ¬ (val h = 1000000000000 ∧ strip p ≠ []) ∧ (strip p).length ≤ 6 then
  let v : Int := ((val h * 1000000 + val (strip p) * 10 ^ (6 - (strip p).length) : Nat) : Int)
  (if neg then -v else v, 0)
 else (0, 2)

def unsigned (l : List UInt8) : List UInt8 := if l.head? = some 45 then l.tail else l
def negB (l : List UInt8) : Bool := l.head? == some 45

def parseT (neg : Bool) (t : List UInt8) : Int × Int :=
 match t.drop (cnt t) with
 | [] => if cnt t = 0 then (0, 1) else fin neg t []
 | c :: p => if c = 46 ∧ p ≠ [] ∧ allDig p = true then fin neg (t.take (cnt t)) p else (0, 1)

def parseS (l : List UInt8) : Int × Int := parseT (negB l) (unsigned l)


theorem unsigned_le (l : List UInt8) : (unsigned l).length ≤ l.length := by unfold unsigned; split <;> simp

theorem take_snoc' (t : List UInt8) (i : Nat) (c : UInt8) (r : List UInt8) (h : t.drop i = c :: r) : t.take (i + 1) = t.take i ++ [c] := by
 have hi : i < t.length := by
  apply Nat.lt_of_not_le; intro g
  rw [List.drop_eq_nil_of_le g] at h; cases h
 rw [List.drop_eq_getElem_cons hi] at h
 rw [List.take_succ_eq_append_getElem hi, (List.cons.inj h).1]

theorem dig_at (t : List UInt8) (i : Nat) (c : UInt8) (r : List UInt8) (h : t.drop i = c :: r) (hi : i < cnt t) : isDig c = true := by
 induction t generalizing i with
 | nil => simp at h
 | cons d t ih =>
  unfold cnt at hi
  cases hd : isDig d
  ·simp [hd] at hi
  ·simp [hd] at hi
   cases i with
   | zero => simp at h; rw [← h.1]; exact hd
   | succ i => exact ih i (by simpa using h) (by omega)

theorem dig_all (t : List UInt8) (i : Nat) (c : UInt8) (r : List UInt8) (h : t.drop i = c :: r) (hd : allDig t = true) : isDig c = true := by
 refine dig_at t i c r h ?_
 rw [(cnt_all t).2 hd]
 apply Nat.lt_of_not_le; intro g
 rw [List.drop_eq_nil_of_le g] at h; cases h

theorem parseT_nil (neg : Bool) (t : List UInt8) (h : t.drop (cnt t) = []) : parseT neg t = if cnt t = 0 then (0, 1) else fin neg (t.take (cnt t)) [] := by
 have h1 : t.take (cnt t) = t := List.take_of_length_le (by have := congrArg List.length h; simp at this; omega)
 unfold parseT; rw [h, h1]
theorem parseT_cons (neg : Bool) (t : List UInt8) (c : UInt8) (p : List UInt8) (h : t.drop (cnt t) = c :: p) : parseT neg t = if c = 46 ∧ p ≠ [] ∧ allDig p = true then fin neg (t.take (cnt t)) p else (0, 1) := by
 unfold parseT; rw [h]

theorem byte_at (l : List UInt8) (i : Nat) (h : i < l.length) : ∃ c rest, l.drop i = c :: rest ∧ l.drop (i + 1) = rest ∧ ∀ h', (⟨l.toArray⟩ : ByteArray)[i]'h' = c :=
 ⟨l[i], l.drop (i + 1), List.drop_eq_getElem_cons h, rfl, fun _ => rfl⟩

end Go.Proofs.YtkhlfggnjcbniaaGreatDoor.num
namespace Go.Proofs.YtkhlfggnjcbniaaGreatDoor.cal

def leapP (y : Int) : Prop := y % 400 = 0 ∨ (y % 4 = 0 ∧ y % 100 ≠ 0)
instance (y : Int) : Decidable (leapP y) := by unfold leapP; infer_instance
def newY (y : Int) : Int := (y - 1) * 365 + (y - 1) / 4 - (y - 1) / 100 + (y - 1) / 400 - 719162
def mlen (y m : Int) : Int := if m = 2 then (if leapP y then 29 else 28) else if m = 4 ∨ m = 6 ∨ m = 9 ∨ m = 11 then 30 else 31
def cum (y m : Int) : Int :=
 if m ≤ 1 then 0 else if m = 2 then 31 else
  (if m = 3 then 59 else if m = 4 then 90 else if m = 5 then 120 else if m = 6 then 151 else if m = 7 then 181 else if m = 8 then 212 else if m = 9 then 243 else if m = 10 then 273 else if m = 11 then 304 else 334) + (if leapP y then 1 else 0)
def numD (y m d : Int) : Int := newY y + cum y m + (d - 1)

def civ (y m d : Int) : Int :=
 let y' := if m < 3 then y - 1 else y
 let m' := if m < 3 then m + 12 else m
 (y' / 400) * 146097 + ((y' % 400) * 365 + (y' % 400) / 4 - (y' % 400) / 100 + ((153 * (m' - 3) + 2) / 5 + d - 1)) - 719468

theorem civ_num (y m d : Int) (h1 : 1 ≤ m) (h2 : m ≤ 12) : civ y m d = numD y m d := by
 have hm : m = 1 ∨ m = 2 ∨ m = 3 ∨ m = 4 ∨ m = 5 ∨ m = 6 ∨ m = 7 ∨ m = 8 ∨ m = 9 ∨ m = 10 ∨ m = 11 ∨ m = 12 := by omega
 have hl : leapP y ∨ ¬ leapP y := Decidable.em _
 rcases hl with hl | hl
 ·rcases hm with rfl | rfl | rfl | rfl | rfl | rfl | rfl | rfl | rfl | rfl | rfl | rfl <;>
   simp only [civ, numD, newY, cum, hl] <;> unfold leapP at hl <;> simp <;> omega
 ·rcases hm with rfl | rfl | rfl | rfl | rfl | rfl | rfl | rfl | rfl | rfl | rfl | rfl <;>
   simp only [civ, numD, newY, cum, hl] <;> unfold leapP at hl <;> simp <;> omega

theorem newY_next (y : Int) : newY (y + 1) = newY y + (if leapP y then 366 else 365) := by
 by_cases h : leapP y
 ·rw [if_pos h]; unfold leapP at h; unfold newY; omega
 ·rw [if_neg h]; unfold leapP at h; unfold newY; omega
theorem newY_mono (a b : Int) (h : a < b) : newY a < newY b := by
 unfold newY; omega

theorem mlen_pos (y m : Int) : 28 ≤ mlen y m ∧ mlen y m ≤ 31 := by unfold mlen; split <;> (try split) <;> omega

def okD (y m d : Int) : Prop := 1 ≤ m ∧ m ≤ 12 ∧ 1 ≤ d ∧ d ≤ mlen y m
theorem cum_bound (y m d : Int) (h : okD y m d) : 0 ≤ cum y m + (d - 1) ∧ cum y m + (d - 1) < (if leapP y then 366 else 365) := by
 obtain ⟨h1, h2, h3, h4⟩ := h
 have hm : m = 1 ∨ m = 2 ∨ m = 3 ∨ m = 4 ∨ m = 5 ∨ m = 6 ∨ m = 7 ∨ m = 8 ∨ m = 9 ∨ m = 10 ∨ m = 11 ∨ m = 12 := by omega
 rcases hm with rfl | rfl | rfl | rfl | rfl | rfl | rfl | rfl | rfl | rfl | rfl | rfl <;> simp [cum, mlen] at * <;> split <;> (try split at h4) <;> omega

theorem num_year (y m d : Int) (h : okD y m d) : newY y ≤ numD y m d ∧ numD y m d < newY (y + 1) := by
 have hb := cum_bound y m d h
 rw [newY_next]
 unfold numD
 omega
def wd (n : Int) : Int := (n + 3) % 7 + 1
def firstW (y : Int) : Int := newY y + 3 - wd (newY y + 3) + 1
theorem firstW_near (y : Int) : newY y - 3 ≤ firstW y ∧ firstW y ≤ newY y + 3 := by unfold firstW wd; omega
theorem firstW_mon (y : Int) : firstW y % 7 = 4 := by unfold firstW wd; omega
theorem firstW_lt (y : Int) : firstW y < firstW (y + 1) := by
 have a := firstW_near y
 have b := firstW_near (y + 1)
 have c := newY_next y
 split at c <;> omega
def weeksW (y : Int) : Int := (firstW (y + 1) - firstW y) / 7
theorem weeksW_mul (y : Int) : firstW (y + 1) = firstW y + 7 * weeksW y := by
 have a := firstW_mon y
 have b := firstW_mon (y + 1)
 unfold weeksW; omega
theorem weeksW_pos (y : Int) : 0 < weeksW y ∧ weeksW y ≤ 54 := by
 have a := firstW_near y
 have b := firstW_near (y + 1)
 have c := newY_next y
 have d := weeksW_mul y
 split at c <;> omega

end Go.Proofs.YtkhlfggnjcbniaaGreatDoor.cal
namespace Go.Proofs.YtkhlfggnjcbniaaGreatDoor.mom
open Go.Lib num cal

def two : List UInt8 → Option (Nat × List UInt8)
 | a :: b :: r => if isDig a && isDig b then some (dv a * 10 + dv b, r) else none
 | _ => none
def sgn (c : UInt8) : List UInt8 → Option (List UInt8)
 | d :: r => if d = c then some r else none
 | [] => none
def yOk (n y : Nat) : Bool := decide (4 ≤ n) && (decide (1 ≤ y) && decide (y ≤ 275760))
def yearP (l : List UInt8) : Option (Nat × List UInt8) :=
 if yOk (cnt l) (val (l.take (cnt l))) then some (val (l.take (cnt l)), l.drop (cnt l)) else none
def dOk (y m d : Nat) : Bool := decide (1 ≤ m) && decide (m ≤ 12) && decide (1 ≤ d) && decide ((d : Int) ≤ mlen y m)
def wOk (y w : Nat) : Bool := decide (1 ≤ w) && decide ((w : Int) ≤ weeksW y)

def dateP (l : List UInt8) : Option (Int × List UInt8) :=
 match yearP l with
 | none => none
 | some (y, r) => match sgn 45 r with
  | none => none
  | some r => match two r with
   | none => none
   | some (m, r) => match sgn 45 r with
    | none => none
    | some r => match two r with
     | none => none
     | some (d, r) => if dOk y m d then some (numD y m d * 86400000, r) else none
def monthP (l : List UInt8) : Option (Int × List UInt8) :=
 match yearP l with
 | none => none
 | some (y, r) => match sgn 45 r with
  | none => none
  | some r => match two r with
   | none => none
   | some (m, r) => if decide (1 ≤ m) && decide (m ≤ 12) then some (12 * ((y : Int) - 1970) + m - 1, r) else none
def weekP (l : List UInt8) : Option (Int × List UInt8) :=
 match yearP l with
 | none => none
 | some (y, r) => match sgn 45 r with
  | none => none
  | some r => match sgn 87 r with
   | none => none
   | some r => match two r with
    | none => none
    | some (w, r) => if wOk y w then some ((firstW y + 7 * ((w : Int) - 1)) * 86400000, r) else none
def thou (l : List UInt8) : Option (Nat × List UInt8) :=
 let n := min (cnt l) 3
 if n = 0 then none else some (val (l.take n) * 10 ^ (3 - n), l.drop n)
def secT (n : Nat) (r : List UInt8) : Option (Int × List UInt8) :=
 if r.head? = some 46 then (match thou r.tail with
  | none => none
  | some (p, r2) => some (((n + p : Nat) : Int), r2)) else some ((n : Int), r)
def secP (n : Nat) (l : List UInt8) : Option (Int × List UInt8) :=
 match two l with
 | none => none
 | some (s, r) => if s < 60 then secT (n + 1000 * s) r else none
def minT (n : Nat) (r : List UInt8) : Option (Int × List UInt8) :=
 if r.head? = some 58 then secP n r.tail else some ((n : Int), r)
def timeP (l : List UInt8) : Option (Int × List UInt8) :=
 match two l with
 | none => none
 | some (h, r) => match sgn 58 r with
  | none => none
  | some r => match two r with
   | none => none
   | some (m, r) => if decide (h < 24) && decide (m < 60) then minT ((h * 60 + m) * 60000) r else none
def midP (l : List UInt8) : Option (List UInt8) := match l with
 | c :: r => if c = 32 ∨ c = 84 then some r else none
 | [] => none
def localP (l : List UInt8) : Option (Int × List UInt8) :=
 match dateP l with
 | none => none
 | some (d, r) => match midP r with
  | none => none
  | some r => match timeP r with
   | none => none
   | some (t, r) => some (d + t, r)
def partP (kind : Int) (l : List UInt8) : Option (Int × List UInt8) :=
 if kind = 1 then dateP l else if kind = 2 then monthP l else if kind = 3 then weekP l else if kind = 4 then timeP l else if kind = 5 then localP l else none
def whole (o : Option (Int × List UInt8)) : Option Int := match o with
 | some (v, []) => some v
 | _ => none
def parseM (kind : Int) (l : List UInt8) : Int × Int :=
 if kind < 1 ∨ 5 < kind then (0, 3) else match whole (partP kind l) with
 | some v => (v, 0)
 | none => (0, 1)

theorem yearP_form (l : List UInt8) (y : Nat) (r : List UInt8) (h : yearP l = some (y, r)) : ∃ ds, l = ds ++ r ∧ allDig ds = true ∧ yOk ds.length y = true ∧ y = val ds ∧ ds.length = cnt l := by
 unfold yearP at h
 split at h
 ·rename_i g
  cases h
  have hl := cnt_le l
  refine ⟨l.take (cnt l), by rw [List.take_append_drop], cnt_take l, ?_, rfl, by rw [List.length_take]; omega⟩
  rw [List.length_take, Nat.min_eq_left hl]
  exact g
 ·cases h
theorem sgn_form (c : UInt8) (l r : List UInt8) (h : sgn c l = some r) : l = c :: r := by
 cases l with
 | nil => cases h
 | cons d t =>
  have e : sgn c (d :: t) = if d = c then some t else none := rfl
  rw [e] at h
  by_cases g : d = c
  ·rw [if_pos g] at h; cases h; rw [g]
  ·rw [if_neg g] at h; cases h
theorem sgn_of (c : UInt8) (r : List UInt8) : sgn c (c :: r) = some r := by rw [sgn, if_pos rfl]
theorem two_form (l : List UInt8) (n : Nat) (r : List UInt8) (h : two l = some (n, r)) : ∃ a b, l = a :: b :: r ∧ isDig a = true ∧ isDig b = true ∧ n = dv a * 10 + dv b := by
 match l, h with
 | [], h => cases h
 | [a], h => cases h
 | a :: b :: t, h =>
  have e : two (a :: b :: t) = if (isDig a && isDig b) = true then some (dv a * 10 + dv b, t) else none := rfl
  rw [e] at h
  by_cases g : (isDig a && isDig b) = true
  ·rw [if_pos g] at h
   rw [Bool.and_eq_true] at g
   cases h
   exact ⟨a, b, rfl, g.1, g.2, rfl⟩
  ·rw [if_neg g] at h; cases h
theorem two_of (a b : UInt8) (r : List UInt8) (ha : isDig a = true) (hb : isDig b = true) : two (a :: b :: r) = some (dv a * 10 + dv b, r) := by rw [two, ha, hb]; rfl
theorem two_lt (l : List UInt8) (n : Nat) (r : List UInt8) (h : two l = some (n, r)) : n < 100 := by
 obtain ⟨a, b, _, ha, hb, rfl⟩ := two_form l n r h
 have := dv_le a ha
 have := dv_le b hb
 omega

theorem dateP_form (l : List UInt8) (v : Int) (r : List UInt8) (h : dateP l = some (v, r)) :
  ∃ y m d r1 r2 r3 r4, yearP l = some (y, r1) ∧ r1 = 45 :: r2 ∧ two r2 = some (m, r3) ∧ r3 = 45 :: r4 ∧ two r4 = some (d, r) ∧ dOk y m d = true ∧ v = numD y m d * 86400000 := by
 unfold dateP at h
 split at h
 ·cases h
 ·rename_i y r1 e1
  split at h
  ·cases h
  ·rename_i r2 e2
   split at h
   ·cases h
   ·rename_i m r3 e3
    split at h
    ·cases h
    ·rename_i r4 e4
     split at h
     ·cases h
     ·rename_i d r5 e5
      split at h
      ·rename_i g
       cases h
       exact ⟨y, m, d, r1, r2, r3, r4, e1, sgn_form _ _ _ e2, e3, sgn_form _ _ _ e4, e5, g, rfl⟩
      ·cases h
theorem dateP_of (l : List UInt8) (y m d : Nat) (r1 r2 r3 r4 r : List UInt8) (h1 : yearP l = some (y, r1)) (h2 : r1 = 45 :: r2) (h3 : two r2 = some (m, r3)) (h4 : r3 = 45 :: r4) (h5 : two r4 = some (d, r)) (h6 : dOk y m d = true) :
  dateP l = some (numD y m d * 86400000, r) := by
 unfold dateP
 rw [h1]
 simp only [h2, sgn_of, h3, h4, h5, h6, if_true]
def isMid (c : UInt8) : Bool := (c == 84) || (c == 32)
end Go.Proofs.YtkhlfggnjcbniaaGreatDoor.mom
namespace Go.Proofs.YtkhlfggnjcbniaaGreatDoor.fits
open Go.ChangeShapes Go.WideShapes Go.ChangeAt Go.RowKit

def lft (n s : Int) : Int := n % s

theorem lft_of (n s : Int) (hs : 0 < s) : (0 ≤ n.tmod s ∧ lft n s = n.tmod s ∧ (0 ≤ n ∨ n.tmod s = 0)) ∨ (n.tmod s < 0 ∧ n < 0 ∧ lft n s = n.tmod s + s) := by
 unfold lft
 have h0 := Int.tmod_eq_emod (a := n) (b := s)
 have h1 := Int.emod_nonneg n (show s ≠ 0 by omega)
 have h2 := Int.emod_lt_of_pos n hs
 have h3 : ((s.natAbs : Nat) : Int) = s := by omega
 split at h0
 ·left
  rename_i hh
  refine ⟨by omega, by omega, ?_⟩
  rcases hh with hh | hh
  ·left; exact hh
  ·right; rw [Int.emod_eq_zero_of_dvd hh] at h0; omega
 ·right; rename_i hh; refine ⟨by omega, ?_, by omega⟩; omega

theorem lft_bd (n s : Int) (hs : 0 < s) : 0 ≤ lft n s ∧ lft n s < s :=
 ⟨Int.emod_nonneg _ (by omega), Int.emod_lt_of_pos _ hs⟩

theorem ret_int {k : IntKind} {a b : Int} (h : a = b) : Ending.returned (.int k a) = .returned (.int k b) := by rw [h]


theorem left_any (n s : Int) (w : World) (hs : 0 < s) (h2 : s ≤ 9223372036854775807) (_h3 : -9223372036854775808 ≤ n) (_h4 : n ≤ 9223372036854775807) :
  Calls Tryz.prog 189 #[.int .i64 n, .int .i64 s] w fun e w' => e = .returned (.int .i64 (lft n s)) ∧ w = w' := by
 have hl := lft_of n s hs
 have hb := lft_bd n s hs
 rcases hl with ⟨hl, he, _⟩ | ⟨hl, hn, he⟩
 ·have H := Lib.hid he; clear he
  go_enter Tryz.func189, Tryz.ntmps189
  go_wp2
  go_ret
  exact ⟨ret_int H.out.symm, rfl⟩
 ·have hx : -9223372036854775808 ≤ n.tmod s + s := by omega
  have hy : n.tmod s + s ≤ 9223372036854775807 := by omega
  have H := Lib.hid he; clear he
  go_enter Tryz.func189, Tryz.ntmps189
  go_wp2
  go_ret
  exact ⟨ret_int H.out.symm, rfl⟩

def fitsB (n b s : Int) : Bool := decide (0 < s) && (lft n s == lft b s)

theorem fitsB_no (n b s : Int) (h : ¬ 0 < s) : fitsB n b s = false := by
 unfold fitsB; rw [decide_eq_false h]; rfl

theorem ret_bool {a b : Bool} (h : a = b) : Ending.returned (.bool a) = .returned (.bool b) := by rw [h]

theorem fits_any (n b s : Int) (w : World) (h1 : -9223372036854775808 ≤ s) (h2 : s ≤ 9223372036854775807) (h3 : -9223372036854775808 ≤ n) (h4 : n ≤ 9223372036854775807) (h5 : -9223372036854775808 ≤ b) (h6 : b ≤ 9223372036854775807) :
  Calls Tryz.prog 101 #[.int .i64 n, .int .i64 b, .int .i64 s] w fun e w' => e = .returned (.bool (fitsB n b s)) ∧ w = w' := by
 by_cases hs : 0 < s
 ·go_enter Tryz.func101, Tryz.ntmps101
  go_wp2_with (go_at_call 189; refine (left_any _ _ _ (by omega) (by omega) (by omega) (by omega)).mono ?_; rintro e w' ⟨rfl, rfl⟩)
  go_ret
  exact ⟨ret_bool (by simp [fitsB, hs]), rfl⟩
 ·go_enter Tryz.func101, Tryz.ntmps101
  go_wp2
  go_ret
  exact ⟨ret_bool (fitsB_no n b s (by omega)).symm, rfl⟩

end Go.Proofs.YtkhlfggnjcbniaaGreatDoor.fits
namespace Go.Proofs.YtkhlfggnjcbniaaGreatDoor.atr

abbrev Attr := List UInt8 × List UInt8
def fidx (nm : List UInt8) : List Attr → Nat
 | [] => 0
 | a :: r => if a.1 = nm then 0 else fidx nm r + 1
def fval (nm : List UInt8) : List Attr → Option (List UInt8)
 | [] => none
 | a :: r => if a.1 = nm then some a.2 else fval nm r
def fint (nm : List UInt8) (l : List Attr) : Int := if fidx nm l < l.length then (fidx nm l : Int) else -1

theorem find_ways (nm : List UInt8) (l : List Attr) : (∃ (k : Nat) (h : k < l.length), fidx nm l = k ∧ l[k].1 = nm ∧ (∀ j (hj : j < k), l[j].1 ≠ nm) ∧ fval nm l = some l[k].2) ∨ (fidx nm l = l.length ∧ (∀ j (hj : j < l.length), l[j].1 ≠ nm) ∧ fval nm l = none) := by
 induction l with
 | nil => right; exact ⟨rfl, fun j hj => absurd hj (Nat.not_lt_zero _), rfl⟩
 | cons a r ih =>
  by_cases h : a.1 = nm
  ·left
   exact ⟨0, Nat.succ_pos _, by rw [fidx, if_pos h], h, fun j hj => absurd hj (Nat.not_lt_zero _), by rw [fval, if_pos h]; rfl⟩
  ·rcases ih with ⟨k, hk, h1, h2, h3, h4⟩ | ⟨h1, h2, h3⟩
   ·left
    refine ⟨k + 1, Nat.succ_lt_succ hk, by rw [fidx, if_neg h, h1], h2, ?_, by rw [fval, if_neg h, h4]; rfl⟩
    intro j hj
    cases j with
    | zero => exact h
    | succ j => exact h3 j (by omega)
   ·right
    refine ⟨by rw [fidx, if_neg h, h1]; rfl, ?_, by rw [fval, if_neg h, h3]⟩
    intro j hj
    cases j with
    | zero => exact h
    | succ j => exact h2 j (by simpa using hj)

def nMin : List UInt8 := [109, 105, 110]
def nMax : List UInt8 := [109, 97, 120]
def nStep : List UInt8 := [115, 116, 101, 112]
def nValue : List UInt8 := [118, 97, 108, 117, 101]
def nAny : List UInt8 := [97, 110, 121]
def nMultiple : List UInt8 := [109, 117, 108, 116, 105, 112, 108, 101]
def nDisabled : List UInt8 := [100, 105, 115, 97, 98, 108, 101, 100]
def nSize : List UInt8 := [115, 105, 122, 101]
def nType : List UInt8 := [116, 121, 112, 101]
end Go.Proofs.YtkhlfggnjcbniaaGreatDoor.atr
namespace Go.Proofs.YtkhlfggnjcbniaaGreatDoor.mom
open Go.Lib num cal
def yearR (l : List UInt8) : Nat × Nat := if yOk (cnt l) (val (l.take (cnt l))) then (val (l.take (cnt l)), cnt l) else (0, 0)
def dOkI (y m d : Int) : Prop := 1 ≤ y ∧ y ≤ 275760 ∧ 1 ≤ m ∧ m ≤ 12 ∧ 1 ≤ d ∧ d ≤ mlen y m
instance (y m d : Int) : Decidable (dOkI y m d) := by unfold dOkI; infer_instance
def wOkI (y w : Int) : Prop := 1 ≤ y ∧ y ≤ 275760 ∧ 1 ≤ w ∧ w ≤ weeksW y
instance (y w : Int) : Decidable (wOkI y w) := by unfold wOkI; infer_instance
theorem yearR_some (l : List UInt8) (y : Nat) (r : List UInt8) (h : yearP l = some (y, r)) : ∃ ds, l = ds ++ r ∧ yearR l = (y, ds.length) ∧ 4 ≤ ds.length ∧ 1 ≤ y ∧ y ≤ 275760 := by
 obtain ⟨ds, h1, h2, h3, h4, h5⟩ := yearP_form l y r h
 refine ⟨ds, h1, ?_, ?_⟩
 ·unfold yearP at h
  unfold yearR
  split at h
  ·rename_i g
   rw [if_pos g]
   cases h
   rw [h5]
  ·cases h
 ·unfold yOk at h3
  simp only [Bool.and_eq_true, decide_eq_true_eq] at h3
  omega
theorem dOk_iff (y m d : Nat) (h1 : 1 ≤ y) (h2 : y ≤ 275760) : dOk y m d = true ↔ dOkI y m d := by
 unfold dOk dOkI
 simp only [Bool.and_eq_true, decide_eq_true_eq]
 omega

theorem mid_iff (c : UInt8) : isMid c = true ↔ (c = 32 ∨ c = 84) := by
 unfold isMid
 simp only [Bool.or_eq_true, beq_iff_eq]
 exact Or.comm

theorem whole_some {o : Option (Int × List UInt8)} {v : Int} (h : whole o = some v) : o = some (v, []) := by
 cases o with
 | none => cases h
 | some x =>
  obtain ⟨a, b⟩ := x
  cases b with
  | nil => cases h; rfl
  | cons c t => cases h

theorem localP_form (l : List UInt8) (v : Int) (r : List UInt8) (h : localP l = some (v, r)) : ∃ d r1 c r2 t, dateP l = some (d, r1) ∧ r1 = c :: r2 ∧ isMid c = true ∧ timeP r2 = some (t, r) ∧ v = d + t := by
 unfold localP at h
 split at h
 ·cases h
 ·rename_i d r1 e1
  split at h
  ·cases h
  ·rename_i r2 e2
   split at h
   ·cases h
   ·rename_i t r3 e3
    cases h
    cases r1 with
    | nil => cases e2
    | cons c q =>
     have e : midP (c :: q) = if c = 32 ∨ c = 84 then some q else none := rfl
     rw [e] at e2
     by_cases g : c = 32 ∨ c = 84
     ·rw [if_pos g] at e2
      cases e2
      exact ⟨d, _, c, _, t, e1, rfl, (mid_iff c).2 g, e3, rfl⟩
     ·rw [if_neg g] at e2; cases e2

theorem localP_of (l : List UInt8) (d t : Int) (c : UInt8) (r2 r : List UInt8) (h1 : dateP l = some (d, c :: r2)) (hc : isMid c = true) (h2 : timeP r2 = some (t, r)) : localP l = some (d + t, r) := by
 unfold localP
 rw [h1]
 have e : midP (c :: r2) = if c = 32 ∨ c = 84 then some r2 else none := rfl
 dsimp only
 rw [e, if_pos ((mid_iff c).1 hc)]
 dsimp only
 rw [h2]

end Go.Proofs.YtkhlfggnjcbniaaGreatDoor.mom
namespace Go.Proofs.YtkhlfggnjcbniaaGreatDoor.doc
open atr

structure Nd where
 name : List UInt8
 text : List UInt8
 attrs : List Attr
 parent : Int
 kids : List Int
instance : Inhabited Nd := ⟨⟨[], [], [], -1, []⟩⟩
def nd (l : List Nd) (k : Int) : Nd := l.getD k.toNat default
theorem nd_cast (l : List Nd) (k : Nat) (h : k < l.length) : nd l k = l[k] := by
 show l.getD (k : Int).toNat default = _
 rw [Int.toNat_natCast, List.getD_eq_getElem?_getD, List.getElem?_eq_getElem h]; rfl

def smallC (c : UInt8) : Bool := decide (97 ≤ c.toNat) && decide (c.toNat ≤ 122)
def digitC (c : UInt8) : Bool := decide (48 ≤ c.toNat) && decide (c.toNat ≤ 57)
def okC (c : UInt8) : Bool := smallC c || digitC c || c == 45
def namedP : List UInt8 → Bool
 | [] => false
 | c :: r => smallC c && r.all okC && decide (r.length + 1 ≤ 20)
def atA (a : List Attr) (i : Nat) : Attr := a.getD i ([], [])
def attrB1 (a : List Attr) (i : Nat) : Bool := namedP (atA a i).1 && decide ((atA a i).2.length ≤ 4000) && fidx (atA a i).1 a == i
def attrsOk (a : List Attr) : Bool := (List.range a.length).all (attrB1 a)
def aloneP (n : Nd) : Bool :=
 if n.name = [] then n.attrs.isEmpty && n.kids.isEmpty && decide (n.text.length ≤ 4000)
 else namedP n.name && n.text.isEmpty && decide (n.attrs.length ≤ 40) && attrsOk n.attrs
def kidB (l : List Nd) (i c : Int) : Bool := decide (0 ≤ c) && decide (c < (l.length : Int)) && decide ((nd l c).parent = i)
def kidsB (l : List Nd) (i : Int) : Bool := (nd l i).kids.all (kidB l i)
def onceB (l : List Nd) (i : Int) : Bool := decide ((nd l i).parent < 0) || (nd l (nd l i).parent).kids.count i == 1
def rangeB (l : List Nd) (i : Int) : Bool := decide (-1 ≤ (nd l i).parent) && decide ((nd l i).parent < (l.length : Int))
def nodeB (l : List Nd) (i : Int) : Bool := aloneP (nd l i) && rangeB l i && onceB l i && kidsB l i
def climb (l : List Nd) : Nat → Int → Int
 | 0, k => k
 | n + 1, k => if k < 0 then k else climb l n (nd l k).parent
def headB (l : List Nd) : Bool := decide (1 ≤ l.length) && decide (l.length ≤ 400) && !(nd l 0).name.isEmpty && decide ((nd l 0).parent = -1)
def nodesB (l : List Nd) : Bool := (List.range l.length).all (fun i => nodeB l i)
def climbsB (l : List Nd) : Bool := (List.range l.length).all (fun i => decide (climb l (l.length + 1) i < 0))
def rightB (l : List Nd) : Bool := headB l && nodesB l && climbsB l

theorem nodup_len : ∀ (a b : List Int), a.Nodup → (∀ x ∈ a, x ∈ b) → a.length ≤ b.length := by
 intro a
 induction a with
 | nil => intro b _ _; exact Nat.zero_le _
 | cons x r ih =>
  intro b hn hs
  have hx : x ∈ b := hs x List.mem_cons_self
  have h1 := ih (b.erase x) (List.nodup_cons.1 hn).2 (fun y hy => by
   have hne : y ≠ x := fun e => (List.nodup_cons.1 hn).1 (e ▸ hy)
   exact (List.mem_erase_of_ne hne).2 (hs y (List.mem_cons_of_mem _ hy)))
  rw [List.length_erase_of_mem hx] at h1
  have : 0 < b.length := List.length_pos_of_mem hx
  simp; omega
theorem nodup_onto (a b : List Int) (ha : a.Nodup) (hs : ∀ x ∈ a, x ∈ b) (hl : b.length ≤ a.length) : ∀ y ∈ b, y ∈ a := by
 intro y hy
 by_cases h : y ∈ a
 ·exact h
 ·exfalso
  have := nodup_len (y :: a) b (List.nodup_cons.2 ⟨h, ha⟩) (fun x hx => by
   rcases List.mem_cons.1 hx with rfl | hx
   ·exact hy
   ·exact hs x hx)
  simp at this; omega

theorem sub_flat {α : Type} (a : List α) (f : α → List Int) (x : α) (h : x ∈ a) : (f x).Sublist (a.flatMap f) := by
 induction a with
 | nil => cases h
 | cons y r ih =>
  rw [List.flatMap_cons]
  rcases List.mem_cons.1 h with rfl | h
  ·exact List.sublist_append_left _ _
  ·exact (ih h).trans (List.sublist_append_right _ _)

def kidsTo (l : List Nd) (i : Nat) : List Int := (List.range i).flatMap (fun j : Nat => (nd l j).kids)
def parTo (l : List Nd) (i : Nat) : List Int := ((List.range i).filter (fun j : Nat => decide (0 ≤ (nd l j).parent))).map (fun j : Nat => (j : Int))
theorem kidsTo_succ (l : List Nd) (i : Nat) : kidsTo l (i + 1) = kidsTo l i ++ (nd l i).kids := by
 unfold kidsTo; rw [List.range_succ, List.flatMap_append]; simp
theorem parTo_succ (l : List Nd) (i : Nat) : (parTo l (i + 1)).length = (parTo l i).length + if 0 ≤ (nd l i).parent then 1 else 0 := by
 unfold parTo
 rw [List.range_succ, List.filter_append, List.map_append, List.length_append]
 by_cases h : 0 ≤ (nd l i).parent
 ·rw [if_pos h, List.filter_cons, if_pos (by simpa using h)]; rfl
 ·rw [if_neg h, List.filter_cons, if_neg (by simpa using h)]; rfl
theorem mem_kidsTo (l : List Nd) (i : Nat) (c : Int) : c ∈ kidsTo l i ↔ ∃ j : Nat, j < i ∧ c ∈ (nd l j).kids := by
 unfold kidsTo; rw [List.mem_flatMap]
 constructor
 ·rintro ⟨j, hj, h⟩; exact ⟨j, List.mem_range.1 hj, h⟩
 ·rintro ⟨j, hj, h⟩; exact ⟨j, List.mem_range.2 hj, h⟩
theorem mem_parTo (l : List Nd) (i : Nat) (c : Int) : c ∈ parTo l i ↔ ∃ j : Nat, j < i ∧ c = j ∧ 0 ≤ (nd l j).parent := by
 unfold parTo; rw [List.mem_map]
 constructor
 ·rintro ⟨j, hj, rfl⟩
  have := List.mem_filter.1 hj
  exact ⟨j, List.mem_range.1 this.1, rfl, by simpa using this.2⟩
 ·rintro ⟨j, hj, rfl, h⟩; exact ⟨j, List.mem_filter.2 ⟨List.mem_range.2 hj, by simpa using h⟩, rfl⟩
theorem parTo_nodup (l : List Nd) (i : Nat) : (parTo l i).Nodup := by
 unfold parTo
 rw [List.Nodup, List.pairwise_map]
 have h : ((List.range i).filter (fun j : Nat => decide (0 ≤ (nd l j).parent))).Nodup := List.Pairwise.filter _ List.nodup_range
 exact h.imp (fun {a b} g e => g (by exact_mod_cast e))

def KidsFine (l : List Nd) (i : Nat) : Prop := ∀ j : Nat, j < i → kidsB l j = true
theorem kid_of (l : List Nd) (i c : Int) (h : kidB l i c = true) : 0 ≤ c ∧ c < (l.length : Int) ∧ (nd l c).parent = i := by
 unfold kidB at h
 rw [Bool.and_eq_true, Bool.and_eq_true, decide_eq_true_eq, decide_eq_true_eq, decide_eq_true_eq] at h
 exact ⟨h.1.1, h.1.2, h.2⟩
theorem kidsB_mem (l : List Nd) (i c : Int) (h : kidsB l i = true) (hc : c ∈ (nd l i).kids) : 0 ≤ c ∧ c < (l.length : Int) ∧ (nd l c).parent = i :=
 kid_of l i c (List.all_eq_true.1 h c hc)

theorem met_all (l : List Nd) (hk : KidsFine l l.length) (hn : (kidsTo l l.length).Nodup) (hr : ∀ i : Nat, i < l.length → rangeB l i = true) :
  (parTo l l.length).length = (kidsTo l l.length).length ↔ ∀ i : Nat, i < l.length → onceB l i = true := by
 have hsub : ∀ x ∈ kidsTo l l.length, x ∈ parTo l l.length := by
  intro x hx
  obtain ⟨j, hj, hx⟩ := (mem_kidsTo l _ x).1 hx
  obtain ⟨h1, h2, h3⟩ := kidsB_mem l j x (hk j hj) hx
  refine (mem_parTo l _ x).2 ⟨x.toNat, by omega, by omega, ?_⟩
  rw [show ((x.toNat : Nat) : Int) = x from by omega, h3]; omega
 have hcnt : ∀ (j : Nat) (x : Int), j < l.length → x ∈ (nd l j).kids → (nd l j).kids.count x = 1 := by
  intro j x hj hx
  have hs : (nd l j).kids.Nodup := by
   have : (nd l j).kids.Sublist (kidsTo l l.length) := by
    unfold kidsTo
    exact sub_flat (List.range l.length) (fun j : Nat => (nd l j).kids) j (List.mem_range.2 hj)
   exact hn.sublist this
  exact Nat.le_antisymm (List.nodup_iff_count.1 hs x) (List.count_pos_iff.2 hx)
 constructor
 ·intro he i hi
  unfold onceB
  by_cases hp : (nd l i).parent < 0
  ·rw [decide_eq_true hp]; rfl
  ·have hin := nodup_onto _ _ hn hsub (by omega) (i : Int) ((mem_parTo l _ _).2 ⟨i, hi, rfl, by omega⟩)
   obtain ⟨j, hj, hx⟩ := (mem_kidsTo l _ _).1 hin
   obtain ⟨_, _, h3⟩ := kidsB_mem l j i (hk j hj) hx
   rw [h3, hcnt j i hj hx]; simp
 ·intro h
  refine Nat.le_antisymm ?_ (nodup_len _ _ hn hsub)
  refine nodup_len _ _ (parTo_nodup l _) ?_
  intro x hx
  obtain ⟨j, hj, rfl, hp⟩ := (mem_parTo l _ _).1 hx
  have h1 := h j hj
  have h2 := hr j hj
  unfold onceB at h1
  unfold rangeB at h2
  rw [decide_eq_false (by omega)] at h1
  have h1 : (nd l (nd l j).parent).kids.count (j : Int) = 1 := by simpa using h1
  have h2 : (nd l j).parent < (l.length : Int) := by
   rw [Bool.and_eq_true, decide_eq_true_eq, decide_eq_true_eq] at h2; exact h2.2
  refine (mem_kidsTo l _ _).2 ⟨(nd l j).parent.toNat, by omega, ?_⟩
  rw [show (((nd l j).parent.toNat : Nat) : Int) = (nd l j).parent from by omega]
  exact List.count_pos_iff.1 (by omega)
theorem met_twice (l : List Nd) (i m : Nat) (hi : i < l.length) (hm : m < (nd l i).kids.length) (hk : KidsFine l i) (c : Int) (hc : (nd l i).kids[m]? = some c)
  (hin : c ∈ kidsTo l i ∨ c ∈ (nd l i).kids.take m) : nodesB l = false := by
 rw [← Bool.not_eq_true]
 intro hall
 have hnode : ∀ j : Nat, j < l.length → nodeB l j = true := fun j hj => List.all_eq_true.1 hall j (List.mem_range.2 hj)
 have hki := hnode i hi
 unfold nodeB at hki
 have hki := (Bool.and_eq_true _ _ ▸ hki).2
 have hcm : c ∈ (nd l i).kids := List.mem_of_getElem? hc
 obtain ⟨h1, h2, h3⟩ := kidsB_mem l i c hki hcm
 rcases hin with hin | hin
 ·obtain ⟨j, hj, hx⟩ := (mem_kidsTo l _ _).1 hin
  obtain ⟨_, _, h4⟩ := kidsB_mem l j c (hk j hj) hx
  omega
 ·have hkc := hnode c.toNat (by omega)
  rw [show ((c.toNat : Nat) : Int) = c from by omega] at hkc
  unfold nodeB at hkc
  have hoc : onceB l c = true := (Bool.and_eq_true _ _ ▸ (Bool.and_eq_true _ _ ▸ hkc).1).2
  unfold onceB at hoc
  rw [h3, decide_eq_false (by omega)] at hoc
  have hoc : (nd l i).kids.count c = 1 := by simpa using hoc
  have e : (nd l i).kids = (nd l i).kids.take m ++ c :: (nd l i).kids.drop (m + 1) := by
   have e1 := (List.take_append_drop m (nd l i).kids).symm
   rw [List.drop_eq_getElem_cons hm] at e1
   have e2 : (nd l i).kids[m] = c := by rw [List.getElem?_eq_getElem hm] at hc; exact Option.some.inj hc
   rw [e2] at e1
   exact e1
  rw [e, List.count_append, List.count_cons_self] at hoc
  have := List.count_pos_iff.2 hin
  omega
end Go.Proofs.YtkhlfggnjcbniaaGreatDoor.doc
namespace Go.Proofs.YtkhlfggnjcbniaaGreatDoor
open Go.RowKit

def Blk (w : World) (B : Nat) (cs : List Value) : Prop := ∃ T, w.heap[B]? = some (.cells cs.toArray T (0, 0))
theorem Blk.lt {w : World} {B : Nat} {cs : List Value} (h : Blk w B cs) : B < w.heap.size := by
 obtain ⟨T, h⟩ := h
 apply Nat.lt_of_not_le; intro g
 rw [Array.getElem?_eq_none g] at h; cases h
theorem Blk.cell {w : World} {B : Nat} {cs : List Value} (h : Blk w B cs) (k : Nat) : w.cell? ⟨B, k, none⟩ = cs[k]? := by
 obtain ⟨T, h⟩ := h
 simp [World.cell?, h]
theorem Blk.frozen {w : World} {B : Nat} {cs : List Value} (h : Blk w B cs) (k : Nat) : w.frozen? ⟨B, k, none⟩ = false := by
 obtain ⟨T, h⟩ := h
 simp [World.frozen?, h]
theorem Blk.set {w : World} {B : Nat} {cs : List Value} (h : Blk w B cs) (k : Nat) (v : Value) : Blk (w.setCell ⟨B, k, none⟩ v) B (cs.set k v) := by
 have hlt := h.lt
 obtain ⟨T, h⟩ := h
 have h' : w.heap[B] = .cells cs.toArray T (0, 0) := by simpa [Array.getElem?_eq_getElem hlt] using h
 refine ⟨T, ?_⟩
 show (w.heap.modify B _)[B]? = _
 rw [Array.getElem?_eq_getElem (by simpa using hlt), Array.getElem_modify_self, h']
 simp
theorem Blk.fresh (w : World) (cs : List Value) (T : TypeId) : Blk (w.alloc (.cells cs.toArray T)) w.heap.size cs := by
 refine ⟨T, ?_⟩
 show (w.heap.push _)[w.heap.size]? = _
 simp
theorem Blk.below {w w' : World} {B : Nat} {cs : List Value} (h : Blk w B cs) {n : Nat} (hb : Below n w w') (hn : B < n) : Blk w' B cs := by
 obtain ⟨T, h⟩ := h
 exact ⟨T, by rw [hb.block _ hn]; exact h⟩
theorem Blk.kept {w w' : World} {B : Nat} {cs : List Value} (h : Blk w B cs) (hb : Below w.heap.size w w') : Blk w' B cs := h.below hb h.lt
theorem Blk.ten {w : World} {B : Nat} {a0 a1 a2 a3 a4 a5 a6 a7 a8 a9 : Value} (h : Blk w B [a0, a1, a2, a3, a4, a5, a6, a7, a8, a9]) :
  w.cell? ⟨B, 0, none⟩ = some a0 ∧ w.cell? ⟨B, 1, none⟩ = some a1 ∧ w.cell? ⟨B, 2, none⟩ = some a2 ∧ w.cell? ⟨B, 3, none⟩ = some a3 ∧ w.cell? ⟨B, 4, none⟩ = some a4 ∧ w.cell? ⟨B, 5, none⟩ = some a5 ∧ w.cell? ⟨B, 6, none⟩ = some a6 ∧ w.cell? ⟨B, 7, none⟩ = some a7 ∧ w.cell? ⟨B, 8, none⟩ = some a8 ∧ w.cell? ⟨B, 9, none⟩ = some a9 ∧
  w.frozen? ⟨B, 0, none⟩ = false ∧ w.frozen? ⟨B, 1, none⟩ = false ∧ w.frozen? ⟨B, 2, none⟩ = false ∧ w.frozen? ⟨B, 3, none⟩ = false ∧ w.frozen? ⟨B, 4, none⟩ = false ∧ w.frozen? ⟨B, 5, none⟩ = false ∧ w.frozen? ⟨B, 6, none⟩ = false ∧ w.frozen? ⟨B, 7, none⟩ = false ∧ w.frozen? ⟨B, 8, none⟩ = false ∧ w.frozen? ⟨B, 9, none⟩ = false :=
 ⟨h.cell 0, h.cell 1, h.cell 2, h.cell 3, h.cell 4, h.cell 5, h.cell 6, h.cell 7, h.cell 8, h.cell 9, h.frozen 0, h.frozen 1, h.frozen 2, h.frozen 3, h.frozen 4, h.frozen 5, h.frozen 6, h.frozen 7, h.frozen 8, h.frozen 9⟩
end Go.Proofs.YtkhlfggnjcbniaaGreatDoor
namespace Go.Proofs.YtkhlfggnjcbniaaGreatDoor.ctl

structure Ent where
 name : List UInt8
 value : List UInt8
 file : Bool
 fname : List UInt8
 typ : List UInt8
instance : Inhabited Ent := ⟨⟨[], [], false, [], []⟩⟩
structure Ctl where
 value : List UInt8
 dirty : Bool
 typed : Bool
 checked : Bool
 dchecked : Bool
 mixed : Bool
 selected : Bool
 dselected : Bool
 custom : List UInt8
 files : List Ent
instance : Inhabited Ctl := ⟨⟨[], false, false, false, false, false, false, false, [], []⟩⟩
end Go.Proofs.YtkhlfggnjcbniaaGreatDoor.ctl
namespace Go.Proofs.YtkhlfggnjcbniaaGreatDoor
open Go.RowKit
theorem rcell1 {fn : Func} {p : Tmp} {ty : TypeId} (h : fn.results = #[.cell p ty]) (tmps : Array Value) (P : Program) (w : World) :
  (results fn tmps).run P w = ((asAddr (tmps.getD p undef)).run P w).andThen fun a w₁ => (loadVar ty a).run P w₁ := by
 simp only [results, h]
 simp [Sem.run_bind, Result.andThen]
end Go.Proofs.YtkhlfggnjcbniaaGreatDoor
namespace Go.Proofs.YtkhlfggnjcbniaaGreatDoor.pat

def inC (sp : List (Int × Int)) (neg : Bool) (x : Int) : Bool := if sp.any (fun s => decide (s.1 ≤ x) && decide (x ≤ s.2)) then !neg else neg
abbrev Fn := List Int → List Bool → List Bool
def clsF (f : Int → Bool) : Fn := fun s a => false :: List.zipWith (fun x b => b && f x) s a
def orL (a b : List Bool) : List Bool := List.zipWith (fun x y => x || y) a b
def it {α : Type} (f : α → α) : Nat → α → α
 | 0, a => a
 | n + 1, a => it f n (f a)
structure Pc where
 f : Fn
 lo : Int
 hi : Int
def grow (f : Fn) (s : List Int) (a : List Bool) : List Bool := orL a (f s a)
def pcE (p : Pc) (s : List Int) (a : List Bool) : List Bool := it (grow p.f s) (if p.hi < 0 then s.length + 1 else (p.hi - p.lo).toNat) (it (p.f s) p.lo.toNat a)
def rowE : List Pc → Fn
 | [], _, a => a
 | p :: r, s, a => rowE r s (pcE p s a)
def zeros (n : Nat) : List Bool := List.replicate n false
def grpF (rs : List (List Pc)) : Fn := fun s a => rs.foldl (fun out r => orL out (rowE r s a)) (zeros a.length)

inductive Atm where
 | cls (sp : List (Int × Int)) (neg : Bool)
 | grp (f : Fn)
def Atm.fn : Atm → Fn
 | .cls sp neg => clsF (inC sp neg)
 | .grp f => f
def Atm.isGrp : Atm → Bool
 | .cls _ _ => false
 | .grp _ => true

def barCls : List Int := [91, 93, 94, 45]
def escCls : List Int := [92, 91, 93, 94, 45, 47, 46, 100, 119, 115]
def escAtom : List Int := [92, 94, 36, 46, 42, 43, 63, 40, 41, 91, 93, 123, 125, 124, 47, 45]
def barAtom : List Int := [94, 36, 42, 43, 63, 41, 93, 123, 125, 124]
def named3 (c : Int) : Bool := c == 100 || c == 119 || c == 115
def named6 (c : Int) : Bool := named3 c || c == 68 || c == 87 || c == 83
def someS (c : Int) : List (Int × Int) :=
 if c = 100 ∨ c = 68 then [(48, 57)] else if c = 119 ∨ c = 87 then [(48, 57), (65, 90), (95, 95), (97, 122)] else if c = 115 ∨ c = 83 then [(9, 10), (12, 13), (32, 32)] else []
def itemSign : List Int → Option (Int × Bool × List Int)
 | [] => none
 | c :: r => if c = 92 then (match r with
   | [] => none
   | d :: r2 => if d ∈ escCls then some (d, named3 d, r2) else none)
  else if c ∈ barCls then none else some (c, false, r)
def item (r : List Int) : Option (List (Int × Int) × List Int) :=
 match itemSign r with
 | none => none
 | some (c, nm, r1) => match r1 with
  | [] => some (if nm then someS c else [(c, c)], r1)
  | x :: r2 => if x = 45 then (match itemSign r2 with
    | none => none
    | some (d, nm2, r3) => if nm || nm2 || decide (d < c) then none else some ([(c, d)], r3))
   else some (if nm then someS c else [(c, c)], r1)
def items : Nat → Bool → List Int → Option (List (Int × Int) × List Int)
 | 0, _, _ => none
 | n + 1, first, r => if first = false ∧ r.head? = some 93 then some ([], r.tail) else
  match item r with
  | none => none
  | some (sp, r1) => match items n false r1 with
   | none => none
   | some (sp2, r2) => some (sp ++ sp2, r2)
def clsR (r : List Int) : Option (Atm × List Int) :=
 match (if r.head? = some 94 then items r.length true r.tail else items r.length true r) with
 | none => none
 | some (sp, r1) => some (.cls sp (decide (r.head? = some 94)), r1)
def escR : List Int → Option (Atm × List Int)
 | [] => none
 | c :: r => if named6 c then some (.cls (someS c) (decide (c < 97)), r) else if c ∈ escAtom then some (.cls [(c, c)] false, r) else none
def isD (c : Int) : Bool := decide (48 ≤ c) && decide (c ≤ 57)
def digs : List Int → Int × Nat × List Int
 | [] => (0, 0, [])
 | a :: r => if isD a then (match r with
   | [] => (a - 48, 1, [])
   | b :: r2 => if isD b then (10 * (a - 48) + (b - 48), 2, r2) else (a - 48, 1, b :: r2)) else (0, 0, a :: r)
def brace (r : List Int) : Option (Int × Int × List Int) :=
 if (digs r).2.1 = 0 then none else
 match (digs r).2.2 with
 | [] => none
 | x :: r3 => if x = 125 then some ((digs r).1, (digs r).1, r3) else if x ≠ 44 then none else
  match r3 with
  | [] => none
  | y :: r4 => if y = 125 then some ((digs r).1, -1, r4) else
   if (digs r3).2.1 = 0 ∨ (digs r3).1 < (digs r).1 then none else
   match (digs r3).2.2 with
   | [] => none
   | z :: r5 => if z = 125 then some ((digs r).1, (digs r3).1, r5) else none
def often (grp : Bool) : List Int → Option (Int × Int × List Int)
 | [] => some (1, 1, [])
 | c :: r => if c = 42 then some (0, -1, r) else if c = 43 then some (1, -1, r) else if c = 63 then some (0, 1, r)
  else if c = 123 then (if grp then none else brace r) else some (1, 1, c :: r)
def isEnd (r : List Int) : Bool := match r with
 | [] => true
 | c :: _ => c == 124 || c == 41
mutual
def atomF : Nat → Nat → List Int → Option (Atm × List Int)
 | 0, _, _ => none
 | n + 1, d, r => match r with
  | [] => none
  | c :: r1 =>
   if c = 46 then some (.cls [(10, 10), (13, 13)] true, r1)
   else if c = 92 then escR r1
   else if c = 91 then clsR r1
   else if c = 40 then (if 8 ≤ d then none else match rowsF n (d + 1) r1 with
    | none => none
    | some (rs, r2) => if r2.head? = some 41 then some (.grp (grpF rs), r2.tail) else none)
   else if c ∈ barAtom then none else some (.cls [(c, c)] false, r1)
def rowF : Nat → Nat → List Int → Option (List Pc × List Int)
 | 0, _, _ => none
 | n + 1, d, r => if isEnd r then some ([], r) else
  match atomF n d r with
  | none => none
  | some (a, r1) => match often a.isGrp r1 with
   | none => none
   | some (lo, hi, r2) => match rowF n d r2 with
    | none => none
    | some (ps, r3) => some (⟨a.fn, lo, hi⟩ :: ps, r3)
def rowsF : Nat → Nat → List Int → Option (List (List Pc) × List Int)
 | 0, _, _ => none
 | n + 1, d, r => match rowF n d r with
  | none => none
  | some (ps, r1) => if r1.head? = some 124 then (match rowsF n d r1.tail with
    | none => none
    | some (rs, r2) => some (ps :: rs, r2)) else some ([ps], r1)
end

theorem orL_len (a b : List Bool) : (orL a b).length = min a.length b.length := by unfold orL; rw [List.length_zipWith]
theorem orL_get (a b : List Bool) (i : Nat) (h : i < (orL a b).length) : (orL a b)[i] = (a[i]'(by rw [orL_len] at h; omega) || b[i]'(by rw [orL_len] at h; omega)) := List.getElem_zipWith (f := fun x y => x || y) (l := a) (l' := b) (h := h)
theorem orL_comm (a b : List Bool) : orL a b = orL b a := by
 apply List.ext_getElem
 ·rw [orL_len, orL_len, Nat.min_comm]
 ·intro i h1 h2
  rw [orL_get, orL_get, Bool.or_comm]
theorem orL_assoc (a b c : List Bool) : orL (orL a b) c = orL a (orL b c) := by
 apply List.ext_getElem
 ·rw [orL_len, orL_len, orL_len, orL_len, Nat.min_assoc]
 ·intro i h1 h2
  rw [orL_get, orL_get, orL_get, orL_get, Bool.or_assoc]
theorem orL_idem (a : List Bool) : orL a a = a := by
 apply List.ext_getElem
 ·rw [orL_len, Nat.min_self]
 ·intro i h1 h2
  rw [orL_get, Bool.or_self]
theorem orL_zeros (n : Nat) (a : List Bool) (h : a.length = n) : orL (zeros n) a = a := by
 apply List.ext_getElem
 ·rw [orL_len]; unfold zeros; rw [List.length_replicate]; omega
 ·intro i h1 h2
  rw [orL_get]
  unfold zeros
  rw [List.getElem_replicate, Bool.false_or]
theorem orL_swap (a b c d : List Bool) : orL (orL a b) (orL c d) = orL (orL a c) (orL b d) := by
 rw [orL_assoc, ← orL_assoc b c d, orL_comm b c, orL_assoc c b d, ← orL_assoc]

structure Lin (f : Fn) : Prop where
 len : ∀ s a, a.length = s.length + 1 → (f s a).length = s.length + 1
 or : ∀ s a b, a.length = s.length + 1 → b.length = s.length + 1 → f s (orL a b) = orL (f s a) (f s b)
theorem or_len {s : List Int} {a b : List Bool} (ha : a.length = s.length + 1) (hb : b.length = s.length + 1) : (orL a b).length = s.length + 1 := by rw [orL_len, ha, hb, Nat.min_self]
theorem cls_len (f : Int → Bool) (s : List Int) (a : List Bool) : (clsF f s a).length = min s.length a.length + 1 := by unfold clsF; rw [List.length_cons, List.length_zipWith]
theorem cls_zero (f : Int → Bool) (s : List Int) (a : List Bool) (h : 0 < (clsF f s a).length) : (clsF f s a)[0] = false := rfl
theorem cls_succ (f : Int → Bool) (s : List Int) (a : List Bool) (i : Nat) (h : i + 1 < (clsF f s a).length) : (clsF f s a)[i + 1] = (a[i]'(by rw [cls_len] at h; omega) && f (s[i]'(by rw [cls_len] at h; omega))) :=
 List.getElem_zipWith (f := fun x b => b && f x) (l := s) (l' := a) (h := by rw [cls_len] at h; rw [List.length_zipWith]; omega)
theorem cls_lin (f : Int → Bool) : Lin (clsF f) := by
 refine ⟨fun s a h => ?_, fun s a b ha hb => ?_⟩
 ·rw [cls_len, h]; omega
 ·apply List.ext_getElem
  ·simp only [orL_len, cls_len, ha, hb, Nat.min_self]
  ·intro i h1 h2
   rw [orL_get]
   cases i with
   | zero => rfl
   | succ i =>
    rw [cls_succ, cls_succ, cls_succ, orL_get, Bool.and_or_distrib_right]
theorem grow_lin {f : Fn} (h : Lin f) : Lin (grow f) := by
 refine ⟨fun s a ha => or_len ha (h.len s a ha), fun s a b ha hb => ?_⟩
 unfold grow
 rw [h.or s a b ha hb, orL_swap]
theorem it_len {f : Fn} (h : Lin f) (s : List Int) : ∀ n a, a.length = s.length + 1 → (it (f s) n a).length = s.length + 1
 | 0, _, ha => ha
 | n + 1, a, ha => it_len h s n _ (h.len s a ha)
theorem it_or {f : Fn} (h : Lin f) (s : List Int) : ∀ n a b, a.length = s.length + 1 → b.length = s.length + 1 → it (f s) n (orL a b) = orL (it (f s) n a) (it (f s) n b)
 | 0, _, _, _, _ => rfl
 | n + 1, a, b, ha, hb => by
  show it (f s) n (f s (orL a b)) = _
  rw [h.or s a b ha hb, it_or h s n _ _ (h.len s a ha) (h.len s b hb)]; rfl
theorem it_succ {α : Type} (f : α → α) : ∀ n a, it f (n + 1) a = f (it f n a)
 | 0, _ => rfl
 | n + 1, a => by show it f (n + 1) (f a) = f (it f (n + 1) a); rw [it_succ f n (f a)]; rfl
theorem it_fix {α : Type} (f : α → α) (a : α) (h : f a = a) : ∀ n, it f n a = a
 | 0 => rfl
 | n + 1 => by show it f n (f a) = a; rw [h, it_fix f a h n]
theorem it_add {α : Type} (f : α → α) : ∀ m n a, it f (m + n) a = it f n (it f m a)
 | 0, n, a => by rw [Nat.zero_add]; rfl
 | m + 1, n, a => by rw [Nat.add_right_comm]; exact it_add f m n (f a)
theorem pc_lin {p : Pc} (h : Lin p.f) : Lin (pcE p) := by
 refine ⟨fun s a ha => it_len (grow_lin h) s _ _ (it_len h s _ _ ha), fun s a b ha hb => ?_⟩
 unfold pcE
 rw [it_or h s _ a b ha hb, it_or (grow_lin h) s _ _ _ (it_len h s _ _ ha) (it_len h s _ _ hb)]
theorem row_lin : ∀ r : List Pc, (∀ p ∈ r, Lin p.f) → Lin (rowE r)
 | [], _ => ⟨fun _ _ h => h, fun _ _ _ _ _ => rfl⟩
 | p :: r, h => by
  have h1 := pc_lin (h p List.mem_cons_self)
  have h2 := row_lin r (fun q hq => h q (List.mem_cons_of_mem _ hq))
  refine ⟨fun s a ha => h2.len s _ (h1.len s a ha), fun s a b ha hb => ?_⟩
  show rowE r s (pcE p s (orL a b)) = _
  rw [h1.or s a b ha hb, h2.or s _ _ (h1.len s a ha) (h1.len s b hb)]; rfl
def LinR (rs : List (List Pc)) : Prop := ∀ r ∈ rs, ∀ p ∈ r, Lin p.f
def foldR (rs : List (List Pc)) (s : List Int) (a out : List Bool) : List Bool := rs.foldl (fun out r => orL out (rowE r s a)) out
theorem fold_len : ∀ (rs : List (List Pc)), LinR rs → ∀ s a out, a.length = s.length + 1 → out.length = s.length + 1 → (foldR rs s a out).length = s.length + 1
 | [], _, _, _, _, _, ho => ho
 | r :: rs, h, s, a, _, ha, ho => fold_len rs (fun q hq => h q (List.mem_cons_of_mem _ hq)) s a _ ha (or_len ho ((row_lin r (h r List.mem_cons_self)).len s a ha))
theorem fold_or : ∀ (rs : List (List Pc)), LinR rs → ∀ s a b o1 o2, a.length = s.length + 1 → b.length = s.length + 1 → foldR rs s (orL a b) (orL o1 o2) = orL (foldR rs s a o1) (foldR rs s b o2)
 | [], _, _, _, _, _, _, _, _ => rfl
 | r :: rs, h, s, a, b, o1, o2, ha, hb => by
  show foldR rs s (orL a b) (orL (orL o1 o2) (rowE r s (orL a b))) = orL (foldR rs s a (orL o1 (rowE r s a))) (foldR rs s b (orL o2 (rowE r s b)))
  rw [(row_lin r (h r List.mem_cons_self)).or s a b ha hb, orL_swap, fold_or rs (fun q hq => h q (List.mem_cons_of_mem _ hq)) s a b _ _ ha hb]
theorem zeros_len (n : Nat) : (zeros n).length = n := List.length_replicate
theorem grp_lin (rs : List (List Pc)) (h : LinR rs) : Lin (grpF rs) := by
 refine ⟨fun s a ha => fold_len rs h s a _ ha (by rw [zeros_len]; exact ha), fun s a b ha hb => ?_⟩
 have e : zeros (orL a b).length = orL (zeros a.length) (zeros b.length) := by
  rw [or_len ha hb, ha, hb, orL_idem]
 show foldR rs s (orL a b) (zeros (orL a b).length) = _
 rw [e, fold_or rs h s a b _ _ ha hb]; rfl
def cnt (a : List Bool) : Nat := a.count true
def newL (c all : List Bool) : List Bool := List.zipWith (fun x y => x && !y) c all
theorem newL_len (a b : List Bool) : (newL a b).length = min a.length b.length := by unfold newL; rw [List.length_zipWith]
theorem newL_get (a b : List Bool) (i : Nat) (h : i < (newL a b).length) : (newL a b)[i] = (a[i]'(by rw [newL_len] at h; omega) && !(b[i]'(by rw [newL_len] at h; omega))) := List.getElem_zipWith (f := fun x y => x && !y) (l := a) (l' := b) (h := h)
theorem or_new (all c : List Bool) (h : all.length = c.length) : orL all (newL c all) = orL all c := by
 apply List.ext_getElem
 ·rw [orL_len, orL_len, newL_len]; omega
 ·intro i h1 h2
  rw [orL_get, orL_get, newL_get]
  cases all[i]'(by rw [orL_len] at h2; omega) <;> simp
structure Front (f : Fn) (s : List Int) (all cur : List Bool) : Prop where
 la : all.length = s.length + 1
 lc : cur.length = s.length + 1
 go : grow f s all = orL all (f s cur)
theorem front_start {f : Fn} {s : List Int} {a : List Bool} (h : a.length = s.length + 1) : Front f s a a := ⟨h, h, rfl⟩
theorem front_next {f : Fn} (hf : Lin f) {s : List Int} {all cur : List Bool} (h : Front f s all cur) : Front f s (grow f s all) (newL (f s cur) all) := by
 have l1 := hf.len s cur h.lc
 have ln : (newL (f s cur) all).length = s.length + 1 := by rw [newL_len, l1, h.la, Nat.min_self]
 have e1 : grow f s all = orL all (newL (f s cur) all) := by rw [or_new _ _ (by rw [l1, h.la]), h.go]
 refine ⟨(grow_lin hf).len s all h.la, ln, ?_⟩
 show orL (grow f s all) (f s (grow f s all)) = _
 conv => lhs; arg 2; rw [e1, hf.or s _ _ h.la ln]
 rw [← orL_assoc]
 congr 1
 show orL (orL all (f s all)) (f s all) = orL all (f s all)
 rw [orL_assoc, orL_idem]
theorem front_done {f : Fn} (hf : Lin f) {s : List Int} {all cur : List Bool} (h : Front f s all cur) (hn : newL (f s cur) all = zeros (s.length + 1)) : grow f s all = all := by
 have l1 := hf.len s cur h.lc
 rw [h.go, ← or_new _ _ (by rw [l1, h.la]), hn, orL_comm]
 exact orL_zeros _ _ h.la
theorem cnt_le (a : List Bool) : cnt a ≤ a.length := List.count_le_length
theorem cnt_or : ∀ (a b : List Bool), a.length ≤ b.length → cnt a ≤ cnt (orL a b) ∧ (orL a b ≠ a → cnt a < cnt (orL a b))
 | [], _, _ => ⟨Nat.le_refl _, fun h => absurd rfl h⟩
 | x :: a, [], h => absurd h (by simp)
 | x :: a, y :: b, h => by
  obtain ⟨h1, h2⟩ := cnt_or a b (by simpa using h)
  have e : orL (x :: a) (y :: b) = (x || y) :: orL a b := rfl
  rw [e]
  unfold cnt at *
  cases x <;> cases y <;> simp only [Bool.or_false, Bool.or_true, Bool.or_self, List.count_cons] at *
  ·exact ⟨by simpa using h1, fun g => by have := h2 (fun q => g (by rw [q])); simpa using this⟩
  ·exact ⟨by simp; omega, fun _ => by simp; omega⟩
  ·exact ⟨by simpa using h1, fun g => by have := h2 (fun q => g (by rw [q])); simpa using this⟩
  ·exact ⟨by simpa using h1, fun g => by have := h2 (fun q => g (by rw [q])); simpa using this⟩
theorem cnt_grow {f : Fn} (hf : Lin f) {s : List Int} {all : List Bool} (ha : all.length = s.length + 1) (h : grow f s all ≠ all) : cnt all < cnt (grow f s all) :=
 (cnt_or all (f s all) (by rw [hf.len s all ha, ha]; exact Nat.le_refl _)).2 h

def Left (r' r : List Int) : Prop := ∃ m, m ≤ r.length ∧ r' = r.drop m
def Left1 (r' r : List Int) : Prop := ∃ m, 1 ≤ m ∧ m ≤ r.length ∧ r' = r.drop m
theorem Left.refl (r : List Int) : Left r r := ⟨0, by omega, rfl⟩
theorem Left1.left {a b : List Int} (h : Left1 a b) : Left a b := by obtain ⟨m, _, h2, h3⟩ := h; exact ⟨m, h2, h3⟩
theorem Left.cons {r' r : List Int} (h : Left r' r) (c : Int) : Left1 r' (c :: r) := by
 obtain ⟨m, h1, h2⟩ := h
 exact ⟨m + 1, by omega, by simp; omega, by rw [h2]; rfl⟩
theorem Left.trans {a b c : List Int} (h : Left a b) (g : Left b c) : Left a c := by
 obtain ⟨m, h1, rfl⟩ := h
 obtain ⟨n, g1, rfl⟩ := g
 rw [List.length_drop] at h1
 exact ⟨n + m, by omega, by rw [List.drop_drop]⟩
theorem Left1.trans {a b c : List Int} (h : Left a b) (g : Left1 b c) : Left1 a c := by
 obtain ⟨m, h1, rfl⟩ := h
 obtain ⟨n, g0, g1, rfl⟩ := g
 rw [List.length_drop] at h1
 exact ⟨n + m, by omega, by omega, by rw [List.drop_drop]⟩
theorem Left1.trans2 {a b c : List Int} (h : Left1 a b) (g : Left b c) : Left1 a c := by
 obtain ⟨m, h0, h1, rfl⟩ := h
 obtain ⟨n, g1, rfl⟩ := g
 rw [List.length_drop] at h1
 exact ⟨n + m, by omega, by omega, by rw [List.drop_drop]⟩
theorem Left1.len {a b : List Int} (h : Left1 a b) : a.length < b.length := by
 obtain ⟨m, h0, h1, rfl⟩ := h
 rw [List.length_drop]; omega
theorem itemSign_left {r r1 : List Int} {c : Int} {nm : Bool} (h : itemSign r = some (c, nm, r1)) : Left1 r1 r := by
 cases r with
 | nil => cases h
 | cons x r =>
  unfold itemSign at h
  dsimp only at h
  split at h
  ·cases r with
   | nil => cases h
   | cons d r2 =>
    dsimp only at h
    split at h
    ·cases h; exact (((Left.refl _).cons _).left).cons _
    ·cases h
  ·split at h
   ·cases h
   ·cases h; exact (Left.refl _).cons _
theorem item_left {r r1 : List Int} {sp : List (Int × Int)} (h : item r = some (sp, r1)) : Left1 r1 r := by
 unfold item at h
 cases hq : itemSign r with
 | none => rw [hq] at h; cases h
 | some y =>
  obtain ⟨c, nm, q⟩ := y
  rw [hq] at h
  have h1 := itemSign_left hq
  cases q with
  | nil => dsimp only at h; cases h; exact h1
  | cons x r2 =>
   dsimp only at h
   split at h
   ·cases hq2 : itemSign r2 with
    | none => rw [hq2] at h; cases h
    | some z =>
     obtain ⟨d, nm2, r3⟩ := z
     rw [hq2] at h
     dsimp only at h
     split at h
     ·cases h
     ·cases h
      exact Left1.trans ((Left1.trans2 (itemSign_left hq2) ((Left.refl _).cons x).left).left) h1
   ·cases h; exact h1
theorem digs_len (r : List Int) : (digs r).2.2 = r.drop (digs r).2.1 ∧ (digs r).2.1 ≤ r.length ∧ (digs r).2.1 ≤ 2 := by
 unfold digs
 cases r with
 | nil => exact ⟨rfl, Nat.le_refl _, by decide⟩
 | cons a r =>
  dsimp only
  split
  ·cases r with
   | nil => exact ⟨rfl, by simp, by show 1 ≤ 2; decide⟩
   | cons b r2 =>
    dsimp only
    split
    ·exact ⟨rfl, by simp, by show 2 ≤ 2; decide⟩
    ·exact ⟨rfl, by simp, by show 1 ≤ 2; decide⟩
  ·exact ⟨rfl, by simp, by show 0 ≤ 2; decide⟩
theorem digs_val (r : List Int) : 0 ≤ (digs r).1 ∧ (digs r).1 ≤ 99 := by
 unfold digs isD
 cases r with
 | nil => exact ⟨by decide, by decide⟩
 | cons a r =>
  dsimp only
  split
  ·rename_i h
   rw [Bool.and_eq_true, decide_eq_true_eq, decide_eq_true_eq] at h
   cases r with
   | nil => exact ⟨by show 0 ≤ a - 48; omega, by show a - 48 ≤ 99; omega⟩
   | cons b r2 =>
    dsimp only
    split
    ·rename_i g
     rw [Bool.and_eq_true, decide_eq_true_eq, decide_eq_true_eq] at g
     exact ⟨by show 0 ≤ 10 * (a - 48) + (b - 48); omega, by show 10 * (a - 48) + (b - 48) ≤ 99; omega⟩
    ·exact ⟨by show 0 ≤ a - 48; omega, by show a - 48 ≤ 99; omega⟩
  ·exact ⟨Int.le_refl _, by show (0 : Int) ≤ 99; decide⟩

theorem atomF_eq (n d : Nat) (c : Int) (r1 : List Int) : atomF (n + 1) d (c :: r1) = if c = 46 then some (.cls [(10, 10), (13, 13)] true, r1)
   else if c = 92 then escR r1
   else if c = 91 then clsR r1
   else if c = 40 then (if 8 ≤ d then none else match rowsF n (d + 1) r1 with
    | none => none
    | some (rs, r2) => if r2.head? = some 41 then some (.grp (grpF rs), r2.tail) else none)
   else if c ∈ barAtom then none else some (.cls [(c, c)] false, r1) := rfl
theorem atomF_nil (n d : Nat) : atomF n d [] = none := by cases n <;> rfl
theorem atomF_grp (n d : Nat) (r1 : List Int) : atomF (n + 1) d (40 :: r1) = if 8 ≤ d then none else match rowsF n (d + 1) r1 with
    | none => none
    | some (rs, r2) => if r2.head? = some 41 then some (.grp (grpF rs), r2.tail) else none := rfl
theorem atomF_else (n d : Nat) (c : Int) (r1 : List Int) (h : c ≠ 46 ∧ c ≠ 92 ∧ c ≠ 91 ∧ c ≠ 40) : atomF (n + 1) d (c :: r1) = if c ∈ barAtom then none else some (.cls [(c, c)] false, r1) := by
 rw [atomF_eq, if_neg h.1, if_neg h.2.1, if_neg h.2.2.1, if_neg h.2.2.2]
theorem escR_cls {r r1 : List Int} {a : Atm} (h : escR r = some (a, r1)) : a.isGrp = false := by
 unfold escR at h
 split at h
 ·cases h
 ·repeat' split at h
  all_goals cases h
  all_goals rfl
theorem clsR_cls {r r1 : List Int} {a : Atm} (h : clsR r = some (a, r1)) : a.isGrp = false := by
 unfold clsR at h
 repeat' split at h
 all_goals cases h
 all_goals rfl
theorem brace_ok {r r1 : List Int} {lo hi : Int} (h : brace r = some (lo, hi, r1)) : 0 ≤ lo ∧ lo ≤ 99 ∧ hi ≤ 99 := by
 have h1 := digs_val r
 unfold brace at h
 repeat' split at h
 all_goals first
  | (cases h; done)
  | (cases h; exact ⟨h1.1, h1.2, h1.2⟩)
  | (cases h; exact ⟨h1.1, h1.2, by decide⟩)
  | (cases h; exact ⟨h1.1, h1.2, (digs_val _).2⟩)
theorem often_ok {g : Bool} {r r1 : List Int} {lo hi : Int} (h : often g r = some (lo, hi, r1)) : 0 ≤ lo ∧ lo ≤ 99 ∧ hi ≤ 99 := by
 unfold often at h
 repeat' split at h
 all_goals first
  | (cases h; done)
  | (cases h; decide)
  | exact brace_ok h
def contR (M d : Nat) (r : List Int) (ps : List Pc) : Option (List Pc × List Int) := match rowF M d r with
 | none => none
 | some (ps2, r2) => some (ps ++ ps2, r2)
theorem rowF_eq (n d : Nat) (r : List Int) : rowF (n + 1) d r = if isEnd r then some ([], r) else
  match atomF n d r with
  | none => none
  | some (a, r1) => match often a.isGrp r1 with
   | none => none
   | some (lo, hi, r2) => match rowF n d r2 with
    | none => none
    | some (ps, r3) => some (⟨a.fn, lo, hi⟩ :: ps, r3) := rfl
theorem cr_nil (M d : Nat) (r : List Int) : contR M d r [] = rowF M d r := by
 unfold contR
 cases rowF M d r with
 | none => rfl
 | some y => rfl
theorem cr_end {M d : Nat} {r : List Int} {ps : List Pc} (hM : 1 ≤ M) (h : isEnd r = true) : contR M d r ps = some (ps, r) := by
 obtain ⟨M, rfl⟩ : ∃ m, M = m + 1 := ⟨M - 1, by omega⟩
 unfold contR
 rw [rowF_eq, if_pos h]
 dsimp only
 rw [List.append_nil]
theorem cr_bad {M d : Nat} {r : List Int} {ps : List Pc} (h : isEnd r = false) (ha : atomF M d r = none) : contR (M + 1) d r ps = none := by
 unfold contR
 rw [rowF_eq, if_neg (by rw [h]; exact Bool.false_ne_true), ha]
theorem cr_bad2 {M d : Nat} {r r1 : List Int} {a : Atm} {ps : List Pc} (h : isEnd r = false) (ha : atomF M d r = some (a, r1)) (ho : often a.isGrp r1 = none) : contR (M + 1) d r ps = none := by
 unfold contR
 rw [rowF_eq, if_neg (by rw [h]; exact Bool.false_ne_true), ha]
 dsimp only
 rw [ho]
theorem cr_go {M d : Nat} {r r1 r2 : List Int} {a : Atm} {lo hi : Int} {ps : List Pc} (h : isEnd r = false) (ha : atomF M d r = some (a, r1)) (ho : often a.isGrp r1 = some (lo, hi, r2)) : contR (M + 1) d r ps = contR M d r2 (ps ++ [⟨a.fn, lo, hi⟩]) := by
 unfold contR
 conv => lhs; rw [rowF_eq, if_neg (by rw [h]; exact Bool.false_ne_true), ha]
 dsimp only
 rw [ho]
 dsimp only
 cases rowF M d r2 with
 | none => rfl
 | some y =>
  obtain ⟨p, q⟩ := y
  dsimp only
  rw [List.append_assoc]
  rfl
def RInv (N d : Nat) (X : Option (List Pc × List Int)) (len : Nat) (r : List Int) (b : Bool) (ps : List Pc) : Prop :=
 (b = false → ∃ M, 3 * len + 2 ≤ M ∧ M ≤ N ∧ X = contR M d r ps) ∧ (b = true → X = none)
def contS (M d : Nat) (r : List Int) (rs : List (List Pc)) : Option (List (List Pc) × List Int) :=
 if r.head? = some 124 then (match rowsF M d r.tail with
  | none => none
  | some (rs2, r2) => some (rs ++ rs2, r2)) else some (rs, r)
theorem rowsF_eq (n d : Nat) (r : List Int) : rowsF (n + 1) d r = match rowF n d r with
  | none => none
  | some (ps, r1) => contS n d r1 [ps] := by
 show (match rowF n d r with
  | none => none
  | some (ps, r1) => if r1.head? = some 124 then (match rowsF n d r1.tail with
    | none => none
    | some (rs, r2) => some (ps :: rs, r2)) else some ([ps], r1)) = _
 cases rowF n d r with
 | none => rfl
 | some y => rfl
theorem cs_end {M d : Nat} {r : List Int} {rs : List (List Pc)} (h : r.head? ≠ some 124) : contS M d r rs = some (rs, r) := if_neg h
theorem cs_go {M d : Nat} {r : List Int} {rs : List (List Pc)} (h : r.head? = some 124) : contS (M + 1) d r rs = match rowF M d r.tail with
  | none => none
  | some (ps, r1) => contS M d r1 (rs ++ [ps]) := by
 conv => lhs; unfold contS
 rw [if_pos h, rowsF_eq]
 cases rowF M d r.tail with
 | none => rfl
 | some y =>
  obtain ⟨ps, r1⟩ := y
  dsimp only
  unfold contS
  by_cases g : r1.head? = some 124
  ·rw [if_pos g, if_pos g]
   cases rowsF M d r1.tail with
   | none => rfl
   | some z =>
    obtain ⟨p, q⟩ := z
    dsimp only
    rw [List.append_assoc]
  ·rw [if_neg g, if_neg g]
def SInv (N d : Nat) (X : Option (List (List Pc) × List Int)) (len : Nat) (r : List Int) (b : Bool) (rs : List (List Pc)) : Prop :=
 (b = false → ∃ M, 3 * len ≤ M ∧ M ≤ N ∧ X = contS M d r rs) ∧ (b = true → X = none)

theorem new_zero {c all : List Bool} (hl : c.length = all.length) (h : orL all c = all) : newL c all = zeros c.length := by
 apply List.ext_getElem
 ·rw [newL_len, zeros_len]; omega
 ·intro i h1 h2
  have hz : (zeros c.length)[i]'h2 = false := List.getElem_replicate ..
  rw [newL_get, hz]
  have hi : i < all.length := by rw [newL_len] at h1; omega
  have e : (orL all c)[i]'(by rw [h]; exact hi) = all[i] := by
   have : ∀ (l : List Bool) (hl : i < l.length), l = all → l[i] = all[i] := fun l hl e => by subst e; rfl
   exact this _ _ h
  rw [orL_get] at e
  cases hx : all[i] with
  | true => simp
  | false =>
   rw [hx, Bool.false_or] at e
   rw [e]; rfl
theorem any_zeros (n : Nat) : (zeros n).any id = false := by
 unfold zeros
 induction n with
 | zero => rfl
 | succ n ih => rw [List.replicate_succ, List.any_cons, ih]; rfl
theorem zeros_any {l : List Bool} (h : l.any id = false) : l = zeros l.length := by
 induction l with
 | nil => rfl
 | cons x l ih =>
  rw [List.any_cons, Bool.or_eq_false_iff] at h
  have := ih h.2
  rw [List.length_cons]
  show x :: l = zeros (l.length + 1)
  unfold zeros at *
  rw [List.replicate_succ, ← this]
  exact congrArg (· :: l) h.1
structure PwI (f : Fn) (s : List Int) (lo hi : Int) (a0 : List Bool) (k : Nat) (all cur : List Bool) : Prop where
 eq : all = it (grow f s) k a0
 fr : Front f s all cur
 l0 : a0.length = s.length + 1
 kc : k ≤ cnt all
 kh : 0 ≤ hi → k ≤ (hi - lo).toNat
theorem PwI.start {f : Fn} {s : List Int} {lo hi : Int} {a0 : List Bool} (h : a0.length = s.length + 1) : PwI f s lo hi a0 0 a0 a0 := ⟨rfl, front_start h, h, Nat.zero_le _, fun _ => Nat.zero_le _⟩
theorem PwI.or {f : Fn} {s : List Int} {lo hi : Int} {a0 : List Bool} {k : Nat} {all cur : List Bool} (h : PwI f s lo hi a0 k all cur) : orL all (f s cur) = grow f s all := h.fr.go.symm
theorem PwI.next {f : Fn} (hf : Lin f) {s : List Int} {lo hi : Int} {a0 : List Bool} {k : Nat} {all cur : List Bool} (h : PwI f s lo hi a0 k all cur) (hm : (newL (f s cur) all).any id = true) (hk : 0 ≤ hi → lo + k < hi) : PwI f s lo hi a0 (k + 1) (orL all (f s cur)) (newL (f s cur) all) ∧ cnt all < cnt (orL all (f s cur)) := by
 have hne : grow f s all ≠ all := by
  intro e
  have := new_zero (c := f s cur) (all := all) (by rw [hf.len s cur h.fr.lc, h.fr.la]) (by rw [h.or]; exact e)
  rw [this, any_zeros] at hm
  cases hm
 have hc := cnt_grow hf h.fr.la hne
 have hkc := h.kc
 rw [h.or]
 exact ⟨⟨by rw [it_succ, ← h.eq], front_next hf h.fr, h.l0, by omega, fun g => by have := hk g; omega⟩, hc⟩
theorem it_stay {f : Fn} {s : List Int} {a0 all : List Bool} {k n : Nat} (e : all = it (grow f s) k a0) (hg : grow f s all = all) (hkn : k ≤ n) : it (grow f s) n a0 = all := by
 rw [show n = k + (n - k) by omega, it_add, ← e, it_fix _ _ hg]
theorem PwI.stop {f : Fn} (hf : Lin f) {s : List Int} {lo hi : Int} {a0 : List Bool} {k : Nat} {all cur : List Bool} (h : PwI f s lo hi a0 k all cur) (hm : (newL (f s cur) all).any id = false) :
  orL all (f s cur) = it (grow f s) (if hi < 0 then s.length + 1 else (hi - lo).toNat) a0 := by
 have hz : newL (f s cur) all = zeros (s.length + 1) := by
  rw [zeros_any hm, newL_len, hf.len s cur h.fr.lc, h.fr.la, Nat.min_self]
 have hg := front_done hf h.fr hz
 rw [h.or, hg]
 have hc := cnt_le all
 have hla := h.fr.la
 have hkc := h.kc
 refine (it_stay h.eq hg ?_).symm
 split
 ·omega
 ·exact h.kh (by omega)
theorem PwI.done {f : Fn} {s : List Int} {lo hi : Int} {a0 : List Bool} {k : Nat} {all cur : List Bool} (h : PwI f s lo hi a0 k all cur) (h0 : 0 ≤ hi) (h1 : hi ≤ lo + k) :
  all = it (grow f s) (if hi < 0 then s.length + 1 else (hi - lo).toNat) a0 := by
 rw [if_neg (by omega), h.eq]
 have := h.kh h0
 rw [show (hi - lo).toNat = k by omega]
def mixL (X Y : List Bool) (i : Nat) : List Bool := X.take i ++ Y.drop i
theorem mix_zero (X Y : List Bool) : mixL X Y 0 = Y := rfl
theorem mix_all {X Y : List Bool} (h : X.length = Y.length) : mixL X Y Y.length = X := by
 unfold mixL
 rw [List.drop_length, List.append_nil, ← h, List.take_length]
theorem mix_len {X Y : List Bool} (h : X.length = Y.length) (i : Nat) : (mixL X Y i).length = Y.length := by
 unfold mixL
 rw [List.length_append, List.length_take, List.length_drop]; omega
theorem mix_get {X Y : List Bool} (h : X.length = Y.length) {i : Nat} (hi : i < Y.length) : (mixL X Y i)[i]'(by rw [mix_len h]; exact hi) = Y[i] := by
 unfold mixL
 rw [List.getElem_append_right (by rw [List.length_take]; omega), List.getElem_drop]
 congr 1
 rw [List.length_take]; omega
theorem mix_set {X Y : List Bool} (h : X.length = Y.length) {i : Nat} (hi : i < Y.length) : (mixL X Y i).set i (X[i]'(by omega)) = mixL X Y (i + 1) := by
 unfold mixL
 have e : Y.drop i = Y[i] :: Y.drop (i + 1) := List.drop_eq_getElem_cons hi
 rw [e, List.set_append_right _ _ (by rw [List.length_take]; omega), List.length_take, show i - min i X.length = 0 by omega, List.set_cons_zero, List.take_succ_eq_append_getElem (by omega), List.append_assoc]
 rfl
theorem mix_same {X Y : List Bool} (h : X.length = Y.length) {i : Nat} (hi : i < Y.length) (e : X[i]'(by omega) = Y[i]) : mixL X Y (i + 1) = mixL X Y i := by
 rw [← mix_set h hi, e]
 have := mix_get h hi
 conv => lhs; arg 3; rw [← this]
 exact List.set_getElem_self _
theorem any_take {l : List Bool} {i : Nat} (hi : i < l.length) : (l.take (i + 1)).any id = ((l.take i).any id || l[i]) := by
 rw [List.take_succ_eq_append_getElem hi, List.any_append]
 simp
end Go.Proofs.YtkhlfggnjcbniaaGreatDoor.pat
