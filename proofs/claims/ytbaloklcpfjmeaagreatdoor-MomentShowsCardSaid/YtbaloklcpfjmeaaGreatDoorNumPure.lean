/- Plain laws on numbers as texts: what number.Parse, number.Show and the reference's Parse, Show compute, and that they agree. No program in sight. -/
import Derived.Lib.ItoaNum
import Derived.Lib.SlTrimSet
namespace Go.Proofs.YtbaloklcpfjmeaaGreatDoor.num
open Go.Lib

def isDig (c : UInt8) : Bool := 48 ≤ c && c ≤ 57
def allDig (l : List UInt8) : Bool := l.all isDig
/-- how many digits stand ahead -/
def cnt : List UInt8 → Nat
  | [] => 0
  | c :: l => if isDig c then cnt l + 1 else 0

theorem isDig_iff (c : UInt8) : isDig c = true ↔ 48 ≤ (c.toNat : Int) ∧ (c.toNat : Int) ≤ 57 := by
  unfold isDig
  simp [UInt8.le_iff_toNat_le]; omega
theorem isDig_no (c : UInt8) (h : isDig c = false) : (c.toNat : Int) < 48 ∨ 57 < (c.toNat : Int) := by
  have := isDig_iff c
  rw [h] at this
  simp at this; omega

theorem cnt_le (l : List UInt8) : cnt l ≤ l.length := by
  induction l with
  | nil => exact Nat.le_refl _
  | cons c l ih => unfold cnt; split <;> simp <;> omega

theorem allDig_cons (c : UInt8) (l : List UInt8) : allDig (c :: l) = (isDig c && allDig l) := rfl

theorem cnt_all (l : List UInt8) : cnt l = l.length ↔ allDig l = true := by
  induction l with
  | nil => simp [cnt, allDig]
  | cons c l ih =>
    have := cnt_le l
    rw [allDig_cons]
    unfold cnt
    cases h : isDig c
    · simp
    · simp [ih]

theorem cnt_take (l : List UInt8) : allDig (l.take (cnt l)) = true := by
  induction l with
  | nil => rfl
  | cons c l ih =>
    unfold cnt
    cases h : isDig c
    · simp [allDig]
    · simp [allDig_cons, h, ih]

theorem cnt_next (l : List UInt8) (c : UInt8) (r : List UInt8) (h : l.drop (cnt l) = c :: r) : isDig c = false := by
  induction l with
  | nil => simp [cnt] at h
  | cons d l ih =>
    unfold cnt at h
    cases hd : isDig d
    · simp [hd] at h; rw [← h.1]; exact hd
    · simp [hd] at h; exact ih h

/-- a number of digits, and no digit behind them -/
theorem cnt_append (a b : List UInt8) (ha : allDig a = true) : cnt (a ++ b) = a.length + cnt b := by
  induction a with
  | nil => simp
  | cons c a ih =>
    rw [allDig_cons] at ha
    simp at ha
    simp [cnt, ha.1, ih ha.2]; omega

/-- what digits tell -/
@[irreducible] def dv (c : UInt8) : Nat := c.toNat - 48
theorem dv_eq (c : UInt8) : dv c = c.toNat - 48 := by unfold dv; rfl
def valFrom (a : Nat) : List UInt8 → Nat
  | [] => a
  | c :: l => valFrom (a * 10 + dv c) l
def val (l : List UInt8) : Nat := valFrom 0 l

theorem valFrom_cons (a : Nat) (c : UInt8) (l : List UInt8) : valFrom a (c :: l) = valFrom (a * 10 + dv c) l := rfl
theorem valFrom_append (a : Nat) (l m : List UInt8) : valFrom a (l ++ m) = valFrom (valFrom a l) m := by
  induction l generalizing a with
  | nil => rfl
  | cons c l ih => rw [List.cons_append, valFrom_cons, valFrom_cons, ih]
theorem valFrom_mul (l : List UInt8) : ∀ a : Nat, valFrom a l = a * 10 ^ l.length + val l := by
  induction l with
  | nil => intro a; simp [valFrom, val]
  | cons c l ih =>
    intro a
    unfold val
    rw [valFrom_cons, valFrom_cons, ih, ih, List.length_cons, Nat.pow_succ]
    generalize 10 ^ l.length = p
    generalize dv c = d
    rw [Nat.add_mul, Nat.add_mul, Nat.zero_mul, Nat.zero_add, Nat.mul_assoc, Nat.mul_comm 10 p, Nat.add_assoc]
theorem valFrom_ge (a : Nat) (l : List UInt8) : a ≤ valFrom a l := by
  rw [valFrom_mul]
  have : 1 ≤ 10 ^ l.length := Nat.one_le_pow _ _ (by decide)
  have := Nat.mul_le_mul_left a this
  omega
theorem val_lt (l : List UInt8) (h : allDig l = true) : val l < 10 ^ l.length := by
  induction l with
  | nil => simp [val, valFrom]
  | cons c l ih =>
    rw [allDig_cons] at h
    simp at h
    have h1 := ih h.2
    have h2 := (isDig_iff c).1 h.1
    have e : val (c :: l) = dv c * 10 ^ l.length + val l := by
      unfold val
      rw [valFrom_cons, valFrom_mul, Nat.zero_mul, Nat.zero_add]; rfl
    rw [e, List.length_cons, Nat.pow_succ]
    have h3 : dv c ≤ 9 := by rw [dv_eq]; omega
    have := Nat.mul_le_mul_right (10 ^ l.length) h3
    omega

/-- without the noughts at the end -/
def strip : List UInt8 → List UInt8
  | [] => []
  | c :: l => if strip l = [] ∧ c = 48 then [] else c :: strip l

theorem strip_snoc (l : List UInt8) (c : UInt8) : strip (l ++ [c]) = if c = 48 then strip l else l ++ [c] := by
  induction l with
  | nil => by_cases h : c = 48 <;> simp [strip, h]
  | cons d l ih =>
    by_cases h : c = 48
    · rw [if_pos h] at ih
      rw [if_pos h, List.cons_append, strip, strip, ih]
    · rw [if_neg h] at ih
      rw [if_neg h, List.cons_append, strip, ih]; simp

theorem strip_trim (l : List UInt8) : trimRightS l [48] = strip l := by
  have h : ∀ m : List UInt8, (m.dropWhile ([48].contains ·)).reverse = strip m.reverse := by
    intro m
    induction m with
    | nil => rfl
    | cons c m ih =>
      rw [List.reverse_cons, strip_snoc, List.dropWhile_cons]
      by_cases hc : c = 48
      · subst hc
        simpa using ih
      · simp [hc]
  unfold trimRightS
  rw [h, List.reverse_reverse]

theorem strip_le (l : List UInt8) : (strip l).length ≤ l.length := by
  induction l with
  | nil => simp [strip]
  | cons c l ih => unfold strip; split <;> simp; omega

theorem strip_pre (l : List UInt8) : ∃ k, l = strip l ++ List.replicate k 48 := by
  induction l with
  | nil => exact ⟨0, rfl⟩
  | cons c l ih =>
    obtain ⟨k, hk⟩ := ih
    unfold strip
    by_cases h : strip l = [] ∧ c = 48
    · rw [if_pos h]; refine ⟨k + 1, ?_⟩
      rw [h.1] at hk; rw [h.2, List.nil_append, List.replicate_succ, ← List.nil_append (List.replicate k 48), ← hk]
    · rw [if_neg h]; exact ⟨k, by rw [List.cons_append, ← hk]⟩

theorem strip_dig (l : List UInt8) (h : allDig l = true) : allDig (strip l) = true := by
  induction l with
  | nil => rfl
  | cons c l ih =>
    rw [allDig_cons] at h
    simp at h
    unfold strip
    split
    · rfl
    · rw [allDig_cons, h.1, ih h.2]; rfl

/-- 'strings.Trim(s, digits) == ""' -/
def digs : List UInt8 := [48, 49, 50, 51, 52, 53, 54, 55, 56, 57]
theorem digs_has (c : UInt8) : digs.contains c = isDig c := by
  have : ∀ n : Fin 256, digs.contains (UInt8.ofNat n.1) = isDig (UInt8.ofNat n.1) := by decide +kernel
  have h := this ⟨c.toNat, c.toNat_lt⟩
  simpa using h

theorem dropWhile_nil (p : UInt8 → Bool) (l : List UInt8) : l.dropWhile p = [] ↔ l.all p = true := by
  induction l with
  | nil => simp
  | cons c l ih => rw [List.dropWhile_cons]; cases h : p c <;> simp [h, ih]

theorem trim_digs (l : List UInt8) : trimS l digs = [] ↔ allDig l = true := by
  have e : (fun c => digs.contains c) = isDig := funext digs_has
  unfold trimS trimLeftS trimRightS allDig
  rw [e]
  constructor
  · intro h
    have h1 := (dropWhile_nil _ _).1 h
    rw [List.all_reverse] at h1
    have : ∀ m : List UInt8, (m.dropWhile isDig).all isDig = true → m.all isDig = true := by
      intro m
      induction m with
      | nil => simp
      | cons c m ih => rw [List.dropWhile_cons]; cases hc : isDig c <;> simp [hc]; simpa using ih
    have h2 := this _ h1
    rwa [List.all_reverse] at h2
  · intro h
    have h1 : l.reverse.dropWhile isDig = [] := (dropWhile_nil _ _).2 (by rw [List.all_reverse]; exact h)
    rw [h1]; rfl


theorem val_cons (c : UInt8) (l : List UInt8) : val (c :: l) = dv c * 10 ^ l.length + val l := by
  unfold val
  rw [valFrom_cons, valFrom_mul, Nat.zero_mul, Nat.zero_add]; rfl
theorem val_nil : val [] = 0 := rfl
theorem val_append (l m : List UInt8) : val (l ++ m) = val l * 10 ^ m.length + val m := by
  unfold val; rw [valFrom_append, valFrom_mul]; rfl
theorem dv_zero : dv 48 = 0 := by rw [dv_eq]; rfl
theorem dv_le (c : UInt8) (h : isDig c = true) : dv c ≤ 9 := by
  have := (isDig_iff c).1 h
  rw [dv_eq]; omega
theorem dv_inj (c : UInt8) (h : isDig c = true) : dv c = 0 ↔ c = 48 := by
  have := (isDig_iff c).1 h
  rw [dv_eq]
  constructor
  · intro e
    have : c.toNat = 48 := by omega
    exact UInt8.toNat_inj.1 this
  · rintro rfl; rfl
theorem val_zeros (k : Nat) : val (List.replicate k 48) = 0 := by
  induction k with
  | zero => rfl
  | succ k ih => rw [List.replicate_succ, val_cons, ih, dv_zero]; simp

/-- the digits behind the point, as the reference goes through them -/
def fr (mx : Bool) (i : Nat) (out unit : Nat) : List UInt8 → Option Nat
  | [] => some out
  | c :: p => if dv c ≠ 0 ∧ (mx = true ∨ 6 ≤ i) then none else fr mx (i + 1) (out + dv c * unit) (unit / 10) p

theorem strip_zero (p : List UInt8) (h : strip p = []) : strip (48 :: p) = [] := by rw [strip, if_pos ⟨h, rfl⟩]
theorem strip_keep (c : UInt8) (p : List UInt8) (h : strip p ≠ [] ∨ c ≠ 48) : strip (c :: p) = c :: strip p := by
  rw [strip, if_neg]; rintro ⟨h1, h2⟩; rcases h with h | h
  · exact h h1
  · exact h h2

theorem pow_less (i : Nat) (hi : i < 6) : 10 ^ (6 - i) / 10 = 10 ^ (6 - (i + 1)) := by
  rw [show 6 - i = (6 - (i + 1)) + 1 by omega, Nat.pow_succ, Nat.mul_div_cancel _ (by decide)]

theorem fr_eq (mx : Bool) (p : List UInt8) : ∀ (i out : Nat), allDig p = true →
    fr mx i out (10 ^ (6 - i) / 10) p = if (mx = true ∧ strip p ≠ []) ∨ 6 - i < (strip p).length then none else some (out + val (strip p) * 10 ^ (6 - i - (strip p).length)) := by
  induction p with
  | nil => intro i out _; simp [fr, strip, val_nil]
  | cons c p ih =>
    intro i out hd
    rw [allDig_cons] at hd
    simp at hd
    obtain ⟨hc, hp⟩ := hd
    have hz := dv_inj c hc
    rw [fr]
    by_cases h0 : dv c = 0
    · have hc0 := hz.1 h0
      subst hc0
      rw [if_neg (fun h => h.1 h0), h0, Nat.zero_mul, Nat.add_zero out]
      have hu : 10 ^ (6 - i) / 10 / 10 = 10 ^ (6 - (i + 1)) / 10 := by
        by_cases hi : i < 6
        · rw [pow_less i hi]
        · rw [show 6 - i = 0 by omega, show 6 - (i + 1) = 0 by omega]
      rw [hu, ih (i + 1) out hp]
      by_cases hs : strip p = []
      · rw [strip_zero p hs, hs]; simp [val_nil]
      · rw [strip_keep 48 p (Or.inl hs)]
        have hl : 1 ≤ (strip p).length := by
          cases h : strip p with
          | nil => exact absurd h hs
          | cons a b => simp
        by_cases hm : mx = true
        · simp [hm, hs]
        · by_cases hq : 6 - (i + 1) < (strip p).length
          · rw [if_pos (Or.inr hq), if_pos (Or.inr (by rw [List.length_cons]; omega))]
          · rw [if_neg (fun h => h.elim (fun g => hm g.1) hq), if_neg (fun h => h.elim (fun g => hm g.1) (fun g => by rw [List.length_cons] at g; omega)), val_cons, h0, List.length_cons, Nat.zero_mul, Nat.zero_add]
            rw [show 6 - i - ((strip p).length + 1) = 6 - (i + 1) - (strip p).length by omega]
    · have hc0 : ¬ c = 48 := fun h => h0 (hz.2 h)
      rw [strip_keep c p (Or.inr hc0)]
      by_cases hm : mx = true
      · rw [if_pos ⟨h0, Or.inl hm⟩, if_pos (Or.inl ⟨hm, by simp⟩)]
      · by_cases hi : 6 ≤ i
        · rw [if_pos ⟨h0, Or.inr hi⟩, if_pos (Or.inr (by rw [List.length_cons]; omega))]
        · rw [if_neg (fun h => h.2.elim hm hi)]
          rw [pow_less i (by omega), ih (i + 1) _ hp]
          by_cases hq : 6 - (i + 1) < (strip p).length
          · rw [if_pos (Or.inr hq), if_pos (Or.inr (by rw [List.length_cons]; omega))]
          · rw [if_neg (fun h => h.elim (fun g => hm g.1) hq), if_neg (fun h => h.elim (fun g => hm g.1) (fun g => by rw [List.length_cons] at g; omega)), val_cons, List.length_cons]
            rw [show 6 - i - ((strip p).length + 1) = 6 - (i + 1) - (strip p).length by omega]
            rw [Nat.add_mul, Nat.mul_assoc, ← Nat.pow_add, show (strip p).length + (6 - (i + 1) - (strip p).length) = 6 - (i + 1) by omega, Nat.add_assoc]

/-- the digits ahead of the point, as the reference goes through them -/
def satFrom (n : Nat) : List UInt8 → Nat
  | [] => n
  | c :: l => satFrom (if n ≤ 1000000000000 then n * 10 + dv c else n) l

theorem satFrom_snoc (l : List UInt8) (c : UInt8) : ∀ n, satFrom n (l ++ [c]) = if satFrom n l ≤ 1000000000000 then satFrom n l * 10 + dv c else satFrom n l := by
  induction l with
  | nil => intro n; rfl
  | cons d l ih => intro n; rw [List.cons_append, satFrom, satFrom, ih]

theorem satFrom_big (l : List UInt8) : ∀ n, ¬ n ≤ 1000000000000 → satFrom n l = n := by
  induction l with
  | nil => intro n _; rfl
  | cons c l ih => intro n h; rw [satFrom, if_neg h, ih n h]

theorem satFrom_le (l : List UInt8) : ∀ n, allDig l = true → n ≤ 10000000000009 → satFrom n l ≤ 10000000000009 := by
  induction l with
  | nil => intro n _ h; exact h
  | cons c l ih =>
    intro n hd h
    rw [allDig_cons] at hd
    simp at hd
    have := dv_le c hd.1
    rw [satFrom]
    split
    · exact ih _ hd.2 (by omega)
    · exact ih _ hd.2 h

theorem satFrom_eq (l : List UInt8) : ∀ n, (valFrom n l ≤ 1000000000000 → satFrom n l = valFrom n l) ∧ (¬ valFrom n l ≤ 1000000000000 → ¬ satFrom n l ≤ 1000000000000) := by
  induction l with
  | nil => intro n; exact ⟨fun _ => rfl, fun h => h⟩
  | cons c l ih =>
    intro n
    rw [satFrom, valFrom_cons]
    by_cases h : n ≤ 1000000000000
    · rw [if_pos h]; exact ih _
    · rw [if_neg h, satFrom_big l n h]
      refine ⟨fun g => ?_, fun _ => h⟩
      have := valFrom_ge (n * 10 + dv c) l
      omega

/-! ### What a text tells -/

/-- the number of a text whose form is right: h ahead of the point, p behind it -/
def fin (neg : Bool) (h p : List UInt8) : Int × Int :=
  if val h ≤ 1000000000000 ∧ ¬ (val h = 1000000000000 ∧ strip p ≠ []) ∧ (strip p).length ≤ 6 then
    let v : Int := ((val h * 1000000 + val (strip p) * 10 ^ (6 - (strip p).length) : Nat) : Int)
    (if neg then -v else v, 0)
  else (0, 2)

/-- what stands behind a '-' -/
def unsigned (l : List UInt8) : List UInt8 := if l.head? = some 45 then l.tail else l
def negB (l : List UInt8) : Bool := l.head? == some 45

def parseT (neg : Bool) (t : List UInt8) : Int × Int :=
  match t.drop (cnt t) with
  | [] => if cnt t = 0 then (0, 1) else fin neg t []
  | c :: p => if c = 46 ∧ p ≠ [] ∧ allDig p = true then fin neg (t.take (cnt t)) p else (0, 1)

/-- P3.1 -/
def parseS (l : List UInt8) : Int × Int := parseT (negB l) (unsigned l)


theorem unsigned_le (l : List UInt8) : (unsigned l).length ≤ l.length := by unfold unsigned; split <;> simp

theorem fin_big (neg : Bool) (h p : List UInt8) (hb : ¬ satFrom 0 h ≤ 1000000000000) : fin neg h p = (0, 2) := by
  unfold fin
  have h1 := (satFrom_eq h 0).1
  rw [if_neg]
  rintro ⟨h2, _⟩
  exact hb (by rw [h1 h2]; exact h2)

theorem sat_val (h : List UInt8) (hb : satFrom 0 h ≤ 1000000000000) : val h = satFrom 0 h := by
  have h1 := satFrom_eq h 0
  by_cases g : valFrom 0 h ≤ 1000000000000
  · exact (h1.1 g).symm
  · exact absurd hb (h1.2 g)

theorem fin_none (neg : Bool) (h p : List UInt8) (hp : allDig p = true) (hb : satFrom 0 h ≤ 1000000000000) (hf : fr (decide (satFrom 0 h = 1000000000000)) 0 (satFrom 0 h * 1000000) 100000 p = none) : fin neg h p = (0, 2) := by
  have e := fr_eq (decide (satFrom 0 h = 1000000000000)) p 0 (satFrom 0 h * 1000000) hp
  have hv := sat_val h hb
  rw [show 10 ^ (6 - 0) / 10 = 100000 from rfl, hf] at e
  unfold fin
  rw [if_neg]
  rintro ⟨_, h2, h3⟩
  rw [if_neg] at e
  · cases e
  · rintro (⟨g1, g2⟩ | g)
    · exact h2 ⟨by rw [hv]; simpa using g1, g2⟩
    · omega

theorem fin_some (neg : Bool) (h p : List UInt8) (out : Nat) (hp : allDig p = true) (hb : satFrom 0 h ≤ 1000000000000) (hf : fr (decide (satFrom 0 h = 1000000000000)) 0 (satFrom 0 h * 1000000) 100000 p = some out) : fin neg h p = (if neg then -(out : Int) else out, 0) := by
  have e := fr_eq (decide (satFrom 0 h = 1000000000000)) p 0 (satFrom 0 h * 1000000) hp
  have hv := sat_val h hb
  rw [show 10 ^ (6 - 0) / 10 = 100000 from rfl, hf] at e
  unfold fin
  by_cases hc : ((decide (satFrom 0 h = 1000000000000)) = true ∧ strip p ≠ []) ∨ 6 - 0 < (strip p).length
  · rw [if_pos hc] at e; cases e
  · rw [if_neg hc] at e
    rw [if_pos]
    · have : out = val h * 1000000 + val (strip p) * 10 ^ (6 - (strip p).length) := by rw [hv]; exact Option.some.inj e
      rw [← this]
    · refine ⟨by omega, fun g => hc (Or.inl ⟨by rw [← hv]; exact decide_eq_true g.1, g.2⟩), ?_⟩
      by_cases g : (strip p).length ≤ 6
      · exact g
      · exact absurd (Or.inr (by omega)) hc

theorem take_snoc' (t : List UInt8) (i : Nat) (c : UInt8) (r : List UInt8) (h : t.drop i = c :: r) : t.take (i + 1) = t.take i ++ [c] := by
  have hi : i < t.length := by
    apply Nat.lt_of_not_le; intro g
    rw [List.drop_eq_nil_of_le g] at h; cases h
  rw [List.drop_eq_getElem_cons hi] at h
  rw [List.take_succ_eq_append_getElem hi, (List.cons.inj h).1]

theorem dig_at (t : List UInt8) (i : Nat) (c : UInt8) (r : List UInt8) (h : t.drop i = c :: r) (hi : i < cnt t) : isDig c = true := by
  induction t generalizing i with
  | nil => simp at h
  | cons d t ih =>
    unfold cnt at hi
    cases hd : isDig d
    · simp [hd] at hi
    · simp [hd] at hi
      cases i with
      | zero => simp at h; rw [← h.1]; exact hd
      | succ i => exact ih i (by simpa using h) (by omega)

theorem dig_all (t : List UInt8) (i : Nat) (c : UInt8) (r : List UInt8) (h : t.drop i = c :: r) (hd : allDig t = true) : isDig c = true := by
  refine dig_at t i c r h ?_
  rw [(cnt_all t).2 hd]
  apply Nat.lt_of_not_le; intro g
  rw [List.drop_eq_nil_of_le g] at h; cases h

/-- a byte's test, as the walk writes it -/
theorem byteq (c d : UInt8) (n : Int) (h : (d.toNat : Int) = n) : ((c.toNat : Int) == n) = (c == d) := by
  subst h
  rw [Bool.eq_iff_iff]
  simp only [beq_iff_eq]
  constructor
  · intro h; exact UInt8.toNat_inj.1 (by omega)
  · rintro rfl; rfl

theorem negB_cons (c : UInt8) (r : List UInt8) : negB (c :: r) = ((c.toNat : Int) == 45) := by
  rw [byteq c 45 45 rfl]
  rfl

theorem unsigned_at (l : List UInt8) : (negB l = true → 1 ≤ l.length ∧ l.drop 1 = unsigned l) ∧ (negB l = false → l.drop 0 = unsigned l) := by
  cases l with
  | nil => exact ⟨fun h => (by cases h), fun _ => rfl⟩
  | cons c r =>
    unfold negB unsigned
    constructor
    · intro h
      have : c = 45 := by simpa using h
      subst this; simp
    · intro h
      have : c ≠ 45 := by simpa using h
      simp [this]

/-- does a point stand behind the digits? -/
def pointB (t : List UInt8) : Bool := match t.drop (cnt t) with | [] => false | c :: _ => c == 46

theorem parseT_nil (neg : Bool) (t : List UInt8) (h : t.drop (cnt t) = []) : parseT neg t = if cnt t = 0 then (0, 1) else fin neg (t.take (cnt t)) [] := by
  have h1 : t.take (cnt t) = t := List.take_of_length_le (by have := congrArg List.length h; simp at this; omega)
  unfold parseT; rw [h, h1]
theorem parseT_cons (neg : Bool) (t : List UInt8) (c : UInt8) (p : List UInt8) (h : t.drop (cnt t) = c :: p) : parseT neg t = if c = 46 ∧ p ≠ [] ∧ allDig p = true then fin neg (t.take (cnt t)) p else (0, 1) := by
  unfold parseT; rw [h]

theorem drop_len {t : List UInt8} {d : Nat} {c : UInt8} {p : List UInt8} (h : t.drop d = c :: p) : t.length ≤ d + 1 + p.length ∧ d + 1 + p.length ≤ t.length := by
  have := congrArg List.length h
  simp at this
  omega
theorem drop_nil_len {t : List UInt8} {d : Nat} (h : t.drop d = []) : t.length ≤ d := by
  have := congrArg List.length h
  simp at this
  omega

theorem byte_at (l : List UInt8) (i : Nat) (h : i < l.length) : ∃ c rest, l.drop i = c :: rest ∧ l.drop (i + 1) = rest ∧ ∀ h', (⟨l.toArray⟩ : ByteArray)[i]'h' = c :=
  ⟨l[i], l.drop (i + 1), List.drop_eq_getElem_cons h, rfl, fun _ => rfl⟩

end Go.Proofs.YtbaloklcpfjmeaaGreatDoor.num
