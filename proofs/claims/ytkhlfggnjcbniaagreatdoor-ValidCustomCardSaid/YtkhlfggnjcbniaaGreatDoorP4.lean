/- A part of the proofs: lemmas and contracts. -/
import Derived.Deep.SlicePairs
import Derived.Lib.Repeat
import Derived.OpenShut
import Derived.Shelf.Strings.SlTrimAscii
import Derived.WalkLawsBesides
import Derived.Test.YtkhlfggnjcbniaaGreatDoorShelf
import Derived.Test.YtkhlfggnjcbniaaGreatDoorP2
import Derived.Test.YtkhlfggnjcbniaaGreatDoorP3
set_option maxHeartbeats 12800000
set_option maxRecDepth 1000000
namespace Go.Proofs.YtkhlfggnjcbniaaGreatDoor.str
open Go.Lib

def cut1 (c : UInt8) : List UInt8 → List UInt8 × List UInt8 × Bool
 | [] => ([], [], false)
 | b :: l => if b = c then ([], l, true) else (b :: (cut1 c l).1, (cut1 c l).2.1, (cut1 c l).2.2)

theorem cut_one (c : UInt8) (t : List UInt8) : Lib.cut t [c] = cut1 c t := by
 unfold Lib.cut
 rw [index_one]
 induction t with
 | nil => simp [indexByte, cut1]
 | cons b l ih =>
  by_cases h : b = c
  ·subst h; simp [indexByte, cut1]
  ·have hb : (b == c) = false := by simpa using h
   have hge := indexByte_ge l c
   rw [cut1, if_neg h, ← ih]
   by_cases hn : indexByte l c = -1
   ·have e : indexByte (b :: l) c = -1 := by rw [indexByte, hb, hn]; rfl
    rw [e, hn]; rfl
   ·obtain ⟨k, hk⟩ : ∃ k : Nat, indexByte l c = k := ⟨(indexByte l c).toNat, by omega⟩
    have e : indexByte (b :: l) c = ((k + 1 : Nat) : Int) := by
     have h2 : (indexByte l c == -1) = false := by simpa using hn
     rw [indexByte, hb, h2, hk]; simp
    rw [e, hk, if_pos (by omega), if_pos (by omega)]
    simp

theorem cut1_spec (c : UInt8) (t : List UInt8) : ((cut1 c t).2.2 = true ∧ t = (cut1 c t).1 ++ c :: (cut1 c t).2.1 ∧ c ∉ (cut1 c t).1) ∨ ((cut1 c t).2.2 = false ∧ (cut1 c t).1 = t ∧ (cut1 c t).2.1 = [] ∧ c ∉ t) := by
 induction t with
 | nil => right; simp [cut1]
 | cons b l ih =>
  unfold cut1
  by_cases h : b = c
  ·subst h; left; simp
  ·rw [if_neg h]
   rcases ih with ⟨h1, h2, h3⟩ | ⟨h1, h2, h3, h4⟩
   ·left
    refine ⟨h1, ?_, ?_⟩
    ·show b :: l = (b :: (cut1 c l).1) ++ c :: (cut1 c l).2.1
     rw [List.cons_append, ← h2]
    ·simp only [List.mem_cons, not_or]
     exact ⟨fun e => h e.symm, h3⟩
   ·right
    refine ⟨h1, ?_, h3, ?_⟩
    ·show b :: (cut1 c l).1 = b :: l
     rw [h2]
    ·simp only [List.mem_cons, not_or]
     exact ⟨fun e => h e.symm, h4⟩

theorem cut1_le (c : UInt8) (t : List UInt8) : (cut1 c t).1.length ≤ t.length ∧ (cut1 c t).2.1.length ≤ t.length := by
 rcases cut1_spec c t with ⟨_, h, _⟩ | ⟨_, h1, h2, _⟩
 ·have := congrArg List.length h
  simp at this; omega
 ·rw [h1, h2]; simp

end Go.Proofs.YtkhlfggnjcbniaaGreatDoor.str
namespace Go.Proofs.YtkhlfggnjcbniaaGreatDoor.num
open Go.Lib str

def digB (l : List UInt8) : Bool := !(l == []) && allDig l

def badB (t : List UInt8) : Bool :=
 ((cut1 46 t).2.2 && !digB (cut1 46 t).2.1) || (!((cut1 46 t).1 == []) && !digB (cut1 46 t).1) || (((cut1 46 t).1 == []) && !(cut1 46 t).2.2)

theorem dig_split (l : List UInt8) (h : allDig l = false) : ∃ c r, l.drop (cnt l) = c :: r ∧ c ∈ l := by
 cases hd : l.drop (cnt l) with
 | nil =>
  have h1 := congrArg List.length hd
  simp at h1
  have h2 := cnt_le l
  have h3 := (cnt_all l).1 (by omega)
  rw [h] at h3; cases h3
 | cons c r => exact ⟨c, r, rfl, List.drop_subset (cnt l) l (by rw [hd]; simp)⟩

theorem cnt_app_bad (a b : List UInt8) (h : allDig a = false) : cnt (a ++ b) = cnt a := by
 induction a with
 | nil => cases h
 | cons c a ih =>
  rw [allDig_cons] at h
  rw [List.cons_append]
  unfold cnt
  cases hc : isDig c
  ·simp
  ·simp [hc] at h
   simp [ih h]

theorem parse_form (neg : Bool) (t : List UInt8) : parseT neg t = if badB t = true then (0, 1) else fin neg (cut1 46 t).1 (cut1 46 t).2.1 := by
 unfold badB digB
 rcases cut1_spec 46 t with ⟨h1, h2, h3⟩ | ⟨h1, h2, h3, h4⟩
 ·generalize (cut1 46 t).1 = h at *
  generalize (cut1 46 t).2.1 = p at *
  rw [h1]
  cases hh : allDig h
  ·obtain ⟨c, r, e1, e2⟩ := dig_split h hh
   have hc : cnt t = cnt h := by rw [h2]; exact cnt_app_bad h _ hh
   have hd : t.drop (cnt t) = c :: (r ++ 46 :: p) := by
    rw [hc, h2, List.drop_append_of_le_length (cnt_le h), e1]; rfl
   have hne : h ≠ [] := by rintro rfl; cases hh
   rw [parseT_cons neg t c _ hd, if_neg (fun (g : c = 46 ∧ _) => h3 (g.1 ▸ e2)), if_pos]
   simp [hne]
  ·have hc : cnt t = h.length := by
    rw [h2, cnt_append h _ hh]
    have : cnt (46 :: p) = 0 := by unfold cnt; rw [if_neg (by decide)]
    omega
   have hd : t.drop (cnt t) = 46 :: p := by rw [hc, h2, List.drop_left]
   rw [parseT_cons neg t 46 p hd]
   have ht : t.take (cnt t) = h := by rw [hc, h2, List.take_left]
   rw [ht]
   by_cases hp : p = []
   ·subst hp; simp
   ·cases hpd : allDig p
    ·simp [hp]
    ·simp [hp]
 ·rw [h1, h2, h3]
  cases hh : allDig t
  ·obtain ⟨c, r, e1, e2⟩ := dig_split t hh
   have hne : t ≠ [] := by rintro rfl; cases hh
   rw [parseT_cons neg t c r e1, if_neg (fun (g : c = 46 ∧ _) => h4 (g.1 ▸ e2)), if_pos]
   simp
  ·have hc := (cnt_all t).2 hh
   have hd : t.drop (cnt t) = [] := List.drop_eq_nil_of_le (by omega)
   have ht : t.take (cnt t) = t := List.take_of_length_le (by omega)
   rw [parseT_nil neg t hd, ht, hc]
   cases t with
   | nil => simp
   | cons a b => simp


theorem bad_dig (t : List UInt8) (h : badB t = false) : allDig (cut1 46 t).1 = true ∧ allDig (cut1 46 t).2.1 = true := by
 unfold badB digB at h
 rcases cut1_spec 46 t with ⟨h1, _, _⟩ | ⟨h1, _, h3, _⟩
 ·rw [h1] at h
  cases hh : (cut1 46 t).1 with
  | nil => rw [hh] at h; simp at h; exact ⟨rfl, h.2⟩
  | cons a b => rw [hh] at h; simp at h; exact ⟨h.2, h.1.2⟩
 ·rw [h1] at h
  rw [h3]
  cases hh : (cut1 46 t).1 with
  | nil => exact ⟨rfl, rfl⟩
  | cons a b => rw [hh] at h; simp at h; exact ⟨h, rfl⟩

theorem six (q : List UInt8) (hq : allDig q = true) (hl : q.length ≤ 6) :
  allDig (q ++ List.replicate (6 - q.length) 48) = true ∧ val (q ++ List.replicate (6 - q.length) 48) = val q * 10 ^ (6 - q.length) ∧ val (q ++ List.replicate (6 - q.length) 48) ≤ 999999 := by
 have h1 : allDig (q ++ List.replicate (6 - q.length) 48) = true := by
  unfold allDig at *
  rw [List.all_append, hq, Bool.true_and]
  rw [List.all_eq_true]
  intro x hx
  rw [(List.mem_replicate.1 hx).2]; decide
 refine ⟨h1, ?_, ?_⟩
 ·rw [val_append, val_zeros, List.length_replicate]; omega
 ·have := val_lt _ h1
  rw [List.length_append, List.length_replicate, show q.length + (6 - q.length) = 6 by omega] at this
  omega

end Go.Proofs.YtkhlfggnjcbniaaGreatDoor.num
namespace Go.Proofs.YtkhlfggnjcbniaaGreatDoor.num
open Go.Lib

def frac (r : Nat) : List UInt8 := strip ((decDigits (1000000 + r)).drop 1)

def showS (n : Int) : List UInt8 :=
 let s := (if n < 0 then [45] else []) ++ decDigits (n.natAbs / 1000000)
 if n.natAbs % 1000000 = 0 then s else s ++ 46 :: frac (n.natAbs % 1000000)

def P : Nat → Nat → List UInt8
 | 0, _ => []
 | k + 1, r => UInt8.ofNat (48 + r / 100000) :: P k (r % 100000 * 10)

def frL : Nat → Nat → List UInt8
 | 0, _ => []
 | k + 1, r => if r = 0 then [] else UInt8.ofNat (48 + r / 100000) :: frL k (r % 100000 * 10)

theorem ofNat48 (k : Nat) (hk : k < 10) : UInt8.ofNat (48 + k) = 48 ↔ k = 0 := by
 constructor
 ·intro h
  have := congrArg UInt8.toNat h
  rw [UInt8.toNat_ofNat'] at this
  have e : (48 : UInt8).toNat = 48 := rfl
  omega
 ·rintro rfl; rfl

theorem strip_P0 (k : Nat) : strip (P k 0) = [] := by
 induction k with
 | zero => rfl
 | succ k ih =>
  have e : P (k + 1) 0 = 48 :: P k 0 := rfl
  rw [e, strip_zero _ ih]

theorem frL_nil (k r : Nat) (h : frL k r = []) : k = 0 ∨ r = 0 := by
 cases k with
 | zero => exact Or.inl rfl
 | succ k =>
  unfold frL at h
  by_cases h0 : r = 0
  ·exact Or.inr h0
  ·rw [if_neg h0] at h; cases h

theorem dvd_step (k r : Nat) (hk : k + 1 ≤ 6) (hq : ∃ q, r = q * 10 ^ (6 - (k + 1))) : ∃ q', r % 100000 * 10 = q' * 10 ^ (6 - k) := by
 obtain ⟨q, hq⟩ := hq
 have e : 6 - k = (6 - (k + 1)) + 1 := by omega
 have hd : 10 ^ (6 - (k + 1)) ∣ 100000 := by
  rw [show (100000 : Nat) = 10 ^ 5 from rfl]; exact Nat.pow_dvd_pow 10 (by omega)
 obtain ⟨d, hd⟩ := hd
 have hm : r % 100000 = (q % d) * 10 ^ (6 - (k + 1)) := by
  rw [hq, hd, Nat.mul_comm q, Nat.mul_mod_mul_left, Nat.mul_comm]
 exact ⟨q % d, by rw [hm, e, Nat.pow_succ, Nat.mul_assoc]⟩

theorem dvd_end (r : Nat) (hr : r < 1000000) (hq : ∃ q, r = q * 10 ^ (6 - 0)) : r = 0 := by
 obtain ⟨q, hq⟩ := hq
 rw [show 10 ^ (6 - 0) = 1000000 from rfl] at hq
 omega

theorem strip_P (k : Nat) : ∀ r, r < 1000000 → k ≤ 6 → (∃ q, r = q * 10 ^ (6 - k)) → strip (P k r) = frL k r := by
 induction k with
 | zero => intro r _ _ _; rfl
 | succ k ih =>
  intro r hr hk hq
  by_cases h0 : r = 0
  ·subst h0
   rw [strip_P0]; unfold frL; rw [if_pos rfl]
  ·unfold P frL
   rw [if_neg h0]
   obtain ⟨q, hq⟩ := hq
   have hq' : ∃ q', r % 100000 * 10 = q' * 10 ^ (6 - k) := by
    have e : 6 - k = (6 - (k + 1)) + 1 := by omega
    have hd : 10 ^ (6 - (k + 1)) ∣ 100000 := by
     rw [show (100000 : Nat) = 10 ^ 5 from rfl]; exact Nat.pow_dvd_pow 10 (by omega)
    obtain ⟨d, hd⟩ := hd
    have hm : r % 100000 = (q % d) * 10 ^ (6 - (k + 1)) := by
     rw [hq, hd, Nat.mul_comm q, Nat.mul_mod_mul_left, Nat.mul_comm]
    exact ⟨q % d, by rw [hm, e, Nat.pow_succ, Nat.mul_assoc]⟩
   have hi := ih (r % 100000 * 10) (by omega) (by omega) hq'
   rw [← hi]
   refine strip_keep _ _ ?_
   by_cases hs : strip (P k (r % 100000 * 10)) = []
   ·right
    intro hc
    have hz := (ofNat48 (r / 100000) (by omega)).1 hc
    rw [hi] at hs
    rcases frL_nil _ _ hs with h | h
    ·subst h
     rw [show 6 - (0 + 1) = 5 from rfl, show 10 ^ 5 = 100000 from rfl] at hq
     omega
    ·omega
   ·left; exact hs

theorem nDigits7 (r : Nat) (h : r < 1000000) : nDigits (1000000 + r) = 7 := nDigits_unique 6 _ (by omega) (by omega)

theorem pad6 (r : Nat) (h : r < 1000000) : (decDigits (1000000 + r)).drop 1 = P 6 r := by
 rw [decDigits_eq, nDigits7 r h]
 simp only [List.range, List.range.loop, List.map, List.drop, P, dg]
 rw [show 10 ^ (7 - 1 - 1) = 100000 from rfl, show 10 ^ (7 - 1 - 2) = 10000 from rfl, show 10 ^ (7 - 1 - 3) = 1000 from rfl, show 10 ^ (7 - 1 - 4) = 100 from rfl, show 10 ^ (7 - 1 - 5) = 10 from rfl, show 10 ^ (7 - 1 - 6) = 1 from rfl]
 rw [show (1000000 + r) / 100000 % 10 = r / 100000 by omega, show (1000000 + r) / 10000 % 10 = r % 100000 * 10 / 100000 by omega,
  show (1000000 + r) / 1000 % 10 = r % 100000 * 10 % 100000 * 10 / 100000 by omega,
  show (1000000 + r) / 100 % 10 = r % 100000 * 10 % 100000 * 10 % 100000 * 10 / 100000 by omega,
  show (1000000 + r) / 10 % 10 = r % 100000 * 10 % 100000 * 10 % 100000 * 10 % 100000 * 10 / 100000 by omega,
  show (1000000 + r) / 1 % 10 = r % 100000 * 10 % 100000 * 10 % 100000 * 10 % 100000 * 10 % 100000 * 10 / 100000 by omega]

theorem frac_eq (r : Nat) (h : r < 1000000) : frac r = frL 6 r := by
 unfold frac
 rw [pad6 r h]
 exact strip_P 6 r h (by omega) ⟨r, by simp⟩

theorem nDigits_bd (k : Nat) : ∀ u, u < 10 ^ k → nDigits u ≤ max 1 k := by
 induction k with
 | zero =>
  intro u h
  have : u = 0 := by omega
  subst this
  rw [nDigits_small (by omega)]; omega
 | succ k ih =>
  intro u h
  by_cases h10 : u < 10
  ·rw [nDigits_small h10]; omega
  ·rw [nDigits_big h10]
   have h2 := ih (u / 10) (by rw [Nat.pow_succ] at h; omega)
   have hk : 1 ≤ k := by
    apply Nat.lt_of_not_le; intro g
    have : k = 0 := by omega
    subst this
    omega
   omega

theorem frL_short (k : Nat) : ∀ m r, r < 1000000 → k ≤ 6 → (∃ q, r = q * 10 ^ (6 - k)) → (frL m r).length ≤ k := by
 induction k with
 | zero =>
  intro m r hr _ hq
  have := dvd_end r hr hq
  subst this
  cases m with
  | zero => simp [frL]
  | succ m => simp [frL]
 | succ k ih =>
  intro m r hr hk hq
  cases m with
  | zero => simp [frL]
  | succ m =>
   rw [frL]
   split
   ·simp
   ·have := ih m (r % 100000 * 10) (by omega) (by omega) (dvd_step k r hk hq)
    simp; omega

theorem fin_ok (neg : Bool) (h p : List UInt8) (v : Int) (hv : fin neg h p = (v, 0)) : val h ≤ 1000000000000 ∧ ¬ (val h = 1000000000000 ∧ strip p ≠ []) ∧ (strip p).length ≤ 6 ∧ v = (if neg then -((val h * 1000000 + val (strip p) * 10 ^ (6 - (strip p).length) : Nat) : Int) else ((val h * 1000000 + val (strip p) * 10 ^ (6 - (strip p).length) : Nat) : Int)) := by
 unfold fin at hv
 by_cases hc : val h ≤ 1000000000000 ∧ ¬ (val h = 1000000000000 ∧ strip p ≠ []) ∧ (strip p).length ≤ 6
 ·rw [if_pos hc] at hv
  exact ⟨hc.1, hc.2.1, hc.2.2, ((Prod.mk.inj hv).1).symm⟩
 ·rw [if_neg hc] at hv
  have := (Prod.mk.inj hv).2
  cases this

theorem fin_err (neg : Bool) (h p : List UInt8) : (fin neg h p).2 = 0 ∨ fin neg h p = (0, 2) := by
 unfold fin
 split
 ·left; rfl
 ·right; rfl

theorem parseT_err (neg : Bool) (t : List UInt8) : (parseT neg t).2 = 0 ∨ (parseT neg t).1 = 0 := by
 rw [parse_form]
 split
 ·right; rfl
 ·rcases fin_err neg (str.cut1 46 t).1 (str.cut1 46 t).2.1 with h | h
  ·left; exact h
  ·right; rw [h]

theorem show_len (n : Int) (h q : List UInt8) (neg : Bool) (hq : allDig q = true) (hd : allDig h = true) (hl : q.length ≤ 6)
  (hn : n = (if neg then -((val h * 1000000 + val q * 10 ^ (6 - q.length) : Nat) : Int) else ((val h * 1000000 + val q * 10 ^ (6 - q.length) : Nat) : Int))) :
  (showS n).length ≤ (if neg then 1 else 0) + max 1 h.length + (if q = [] then 0 else 1 + q.length) := by
 have hvq := val_lt q hq
 have hr : val q * 10 ^ (6 - q.length) < 1000000 := by
  have h1 : val q * 10 ^ (6 - q.length) < 10 ^ q.length * 10 ^ (6 - q.length) := Nat.mul_lt_mul_of_pos_right hvq (Nat.pow_pos (by decide))
  rw [← Nat.pow_add, show q.length + (6 - q.length) = 6 by omega] at h1
  exact h1
 have hs := frL_short q.length 6 (val q * 10 ^ (6 - q.length)) hr hl ⟨val q, rfl⟩
 generalize hrr : val q * 10 ^ (6 - q.length) = r at *
 have hu : n.natAbs = val h * 1000000 + r := by rw [hn]; split <;> omega
 have h1 : n.natAbs / 1000000 = val h := by omega
 have h2 : n.natAbs % 1000000 = r := by omega
 have hD : (decDigits (val h)).length ≤ max 1 h.length := by
  rw [decDigits_length]; exact nDigits_bd _ _ (val_lt h hd)
 have hneg : (if n < 0 then [45] else ([] : List UInt8)).length ≤ (if neg then 1 else 0) := by
  cases neg with
  | true => rw [if_pos (rfl : true = true)]; split <;> simp
  | false =>
   have h0 : ¬ n < 0 := by rw [hn, if_neg (by decide)]; omega
   rw [if_neg h0]; simp
 unfold showS
 rw [h1, h2]
 by_cases h0 : r = 0
 ·rw [if_pos h0, List.length_append]; omega
 ·rw [if_neg h0, List.length_append, List.length_append, List.length_cons, frac_eq r hr]
  have : q ≠ [] := by
   rintro rfl
   rw [val_nil, Nat.zero_mul] at hrr
   exact h0 hrr.symm
  rw [if_neg this]; omega

theorem normal (l : List UInt8) (h : (parseS l).2 = 0) : (parseS l).1.natAbs ≤ 1000000000000000000 ∧ (showS (parseS l).1).length ≤ l.length + 1 := by
 obtain ⟨neg, hneg⟩ : ∃ b, b = negB l := ⟨_, rfl⟩
 have hp : parseS l = parseT neg (unsigned l) := by unfold parseS; rw [hneg]
 have hul : (unsigned l).length + (if neg then 1 else 0) ≤ l.length := by
  rw [hneg]
  cases l with
  | nil => simp [unsigned, negB]
  | cons c r =>
   by_cases hc : c = 45
   ·subst hc; simp [unsigned, negB]
   ·simp [unsigned, negB, hc]
 generalize unsigned l = t at *
 rw [hp] at h ⊢
 rw [parse_form] at h ⊢
 by_cases hb : badB t = true
 ·rw [if_pos hb] at h; cases h
 ·rw [if_neg hb] at h ⊢
  have hbd := bad_dig t (by simpa using hb)
  have hbf : badB t = false := by simpa using hb
  rcases hf : fin neg (str.cut1 46 t).1 (str.cut1 46 t).2.1 with ⟨v, e⟩
  rw [hf] at h
  simp only at h ⊢
  subst h
  obtain ⟨h1, h2, h3, h4⟩ := fin_ok _ _ _ _ hf
  have hsl := strip_le (str.cut1 46 t).2.1
  have hq := strip_dig _ hbd.2
  have hlen := show_len v _ _ neg hq hbd.1 h3 h4
  have hvq := val_lt _ hq
  have hr : val (strip (str.cut1 46 t).2.1) * 10 ^ (6 - (strip (str.cut1 46 t).2.1).length) < 1000000 := by
   have g1 : val (strip (str.cut1 46 t).2.1) * 10 ^ (6 - (strip (str.cut1 46 t).2.1).length) < 10 ^ (strip (str.cut1 46 t).2.1).length * 10 ^ (6 - (strip (str.cut1 46 t).2.1).length) := Nat.mul_lt_mul_of_pos_right hvq (Nat.pow_pos (by decide))
   rw [← Nat.pow_add, show (strip (str.cut1 46 t).2.1).length + (6 - (strip (str.cut1 46 t).2.1).length) = 6 by omega] at g1
   exact g1
  have hv0 : strip (str.cut1 46 t).2.1 = [] → val (strip (str.cut1 46 t).2.1) * 10 ^ (6 - (strip (str.cut1 46 t).2.1).length) = 0 := by
   intro g; rw [g, val_nil, Nat.zero_mul]
  clear hvq hq hbd hb hbf hf
  generalize val (strip (str.cut1 46 t).2.1) * 10 ^ (6 - (strip (str.cut1 46 t).2.1).length) = r at *
  generalize val (str.cut1 46 t).1 = a at *
  constructor
  ·have hva : v.natAbs = a * 1000000 + r := by
    rw [h4]
    cases neg with
    | true => rw [if_pos (rfl : true = true), Int.natAbs_neg]; rfl
    | false => rw [if_neg (by decide)]; rfl
   rw [hva]
   clear h4 hva hlen hul
   by_cases hm : a = 1000000000000
   ·have hq0 : strip (str.cut1 46 t).2.1 = [] := by
     apply Classical.byContradiction; intro g; exact h2 ⟨hm, g⟩
    have h0 := hv0 hq0
    rw [hm, h0]
    decide
   ·have h5 : a + 1 ≤ 1000000000000 := by clear hr hv0 h3 hsl; omega
    clear h1 h2 hm h3 hsl hv0
    have h6 : (a + 1) * 1000000 ≤ 1000000000000 * 1000000 := Nat.mul_le_mul_right _ h5
    rw [Nat.add_mul] at h6
    exact Nat.le_trans (Nat.add_le_add_left (Nat.le_of_lt hr) _) (by simpa using h6)
  ·have hcut : (str.cut1 46 t).1.length + (if (str.cut1 46 t).2.2 = true then 1 + (str.cut1 46 t).2.1.length else 0) ≤ t.length := by
    rcases str.cut1_spec 46 t with ⟨g1, g2, _⟩ | ⟨g1, g2, g3, _⟩
    ·rw [g1, if_pos rfl]
     have := congrArg List.length g2
     simp at this; omega
    ·rw [g1, g2]; simp
   have hp2 : (str.cut1 46 t).2.2 = false → (str.cut1 46 t).2.1 = [] := by
    intro g
    rcases str.cut1_spec 46 t with ⟨g1, _, _⟩ | ⟨_, _, g3, _⟩
    ·rw [g] at g1; cases g1
    ·exact g3
   cases hpt : (str.cut1 46 t).2.2 with
   | true =>
    rw [hpt, if_pos rfl] at hcut
    split at hlen <;> split at hlen <;> rename_i g1 g2 <;> simp [g1] at hul <;> omega
   | false =>
    have := hp2 hpt
    rw [hpt] at hcut
    rw [this] at hlen
    simp [strip] at hlen hcut
    split at hlen <;> rename_i g1 <;> simp [g1] at hul <;> omega

end Go.Proofs.YtkhlfggnjcbniaaGreatDoor.num
namespace Go.Proofs.YtkhlfggnjcbniaaGreatDoor.stp
open Go.Lib num mom cal link fits atr

def valK (kind : Int) (s : List UInt8) : Int × Bool :=
 if kind = 13 ∨ kind = 14 then ((parseS s).1, (parseS s).2 == 0)
 else if 8 ≤ kind ∧ kind ≤ 12 then ((parseM (kind - 7) s).1, (parseM (kind - 7) s).2 == 0)
 else (0, false)
def boundK (kind : Int) (l : List Attr) (nm : List UInt8) : Int × Bool :=
 match fval nm l with
 | none => (0, false)
 | some s => valK kind s
def leastK (kind : Int) (l : List Attr) : Int × Bool := ((boundK kind l nMin).1, (boundK kind l nMin).2 || (kind == 14))
def mostK (kind : Int) (l : List Attr) : Int × Bool :=
 if (boundK kind l nMax).2 = true ∨ kind ≠ 14 then boundK kind l nMax else (max (leastK kind l).1 100000000, true)
def scaleK (kind : Int) : Int := if kind = 8 then 86400000 else if kind = 9 then 1 else if kind = 10 then 604800000 else if kind = 11 ∨ kind = 12 then 1000 else 1000000
def byK (kind : Int) : Int := if kind = 11 ∨ kind = 12 then 60000 else scaleK kind
def isK (kind : Int) : Bool := decide (8 ≤ kind) && decide (kind ≤ 14)
def stepQ (by' scale n : Int) : Int := if n * scale / 1000000 = 0 ∨ 1000000000000000000 < n * scale / 1000000 then by' else n * scale / 1000000
def stepK (kind : Int) (l : List Attr) : Int × Bool :=
 if isK kind = false then (0, false)
 else match fval nStep l with
  | none => (byK kind, true)
  | some s => if lowS s = nAny then (0, false)
   else if (parseS s).2 ≠ 0 ∨ (parseS s).1 ≤ 0 then (byK kind, true)
   else (stepQ (byK kind) (scaleK kind) (parseS s).1, true)
def baseK (kind : Int) (l : List Attr) : Int :=
 if (boundK kind l nMin).2 = true then (boundK kind l nMin).1
 else if (boundK kind l nValue).2 = true then (boundK kind l nValue).1
 else if kind = 10 then -259200000 else 0
def underK (kind : Int) (l : List Attr) (n : Int) : Bool := (leastK kind l).2 && decide (n < (leastK kind l).1)
def overK (kind : Int) (l : List Attr) (n : Int) : Bool := (mostK kind l).2 && decide ((mostK kind l).1 < n)
def turnedK (kind : Int) (l : List Attr) : Bool := (kind == 11) && (leastK kind l).2 && (mostK kind l).2 && decide ((mostK kind l).1 < (leastK kind l).1)
def offK (kind : Int) (l : List Attr) (n : Int) : Bool := (stepK kind l).2 && !fitsB n (baseK kind l) (stepK kind l).1
def flagsK (kind : Int) (l : List Attr) (s : List UInt8) : Bool × Bool × Bool :=
 if (valK kind s).2 = false then (false, false, false)
 else if turnedK kind l = true then (underK kind l (valK kind s).1 && overK kind l (valK kind s).1, underK kind l (valK kind s).1 && overK kind l (valK kind s).1, offK kind l (valK kind s).1)
 else (underK kind l (valK kind s).1, overK kind l (valK kind s).1, offK kind l (valK kind s).1)

end Go.Proofs.YtkhlfggnjcbniaaGreatDoor.stp
namespace Go.Proofs.YtkhlfggnjcbniaaGreatDoor.days
open Go.ChangeShapes Go.WideShapes Go.ChangeAt Go.RowKit Go.Lib cal
theorem firstW_bound (y : Int) (h1 : 0 ≤ y) (h2 : y ≤ 275770) : -800000 ≤ firstW y ∧ firstW y ≤ 120000000 := by
 have := firstW_near y
 have : -719800 ≤ newY y ∧ newY y ≤ 110000000 := by unfold newY; omega
 omega

end Go.Proofs.YtkhlfggnjcbniaaGreatDoor.days
namespace Go.Proofs.YtkhlfggnjcbniaaGreatDoor.num
open Go.ChangeShapes Go.WideShapes Go.ChangeAt Go.RowKit Go.Lib

theorem isDig_nat (c : UInt8) (h : isDig c = true) : 48 ≤ c.toNat ∧ c.toNat ≤ 57 := by
 have := (isDig_iff c).1 h
 omega

theorem parse_val (l : List UInt8) : ∀ n, allDig l = true → (valFrom n l < 18446744073709551616 → parseUint10 n l = .ok (valFrom n l)) ∧ (18446744073709551616 ≤ valFrom n l → n < 18446744073709551616 → parseUint10 n l = .range) := by
 induction l with
 | nil => intro n _; exact ⟨fun _ => rfl, fun h g => absurd h (by show ¬ _ ≤ n; omega)⟩
 | cons c r ih =>
  intro n hd
  rw [allDig_cons, Bool.and_eq_true] at hd
  obtain ⟨h1, h2⟩ := hd
  have hc := isDig_nat c h1
  have hg := valFrom_ge (n * 10 + dv c) r
  rw [parseUint10, if_pos hc, valFrom_cons]
  obtain ⟨i1, i2⟩ := ih (n * 10 + dv c) h2
  rw [dv_eq] at *
  constructor
  ·intro h
   rw [if_neg (by omega), if_neg (by omega)]
   exact i1 h
  ·intro h hn
   by_cases g1 : 1844674407370955162 ≤ n
   ·rw [if_pos g1]
   ·rw [if_neg g1]
    by_cases g2 : 18446744073709551616 ≤ n * 10 + (c.toNat - 48)
    ·rw [if_pos g2]
    ·rw [if_neg g2]
     exact i2 h (by omega)

theorem atoi_val (l : List UInt8) (hp : 0 < l.length) (h2 : allDig l = true) : (val l < 9223372036854775808 ∧ atoiAll l = .ok (val l : Int)) ∨ (9223372036854775808 ≤ val l ∧ ∀ v, atoiAll l ≠ .ok v) := by
 cases l with
 | nil => simp at hp
 | cons c r =>
  have hp := parse_val (c :: r) 0 h2
  have hc : 48 ≤ c.toNat ∧ c.toNat ≤ 57 := by
   rw [allDig_cons, Bool.and_eq_true] at h2
   exact isDig_nat c h2.1
  unfold val
  generalize valFrom 0 (c :: r) = n at *
  have e : atoiAll (c :: r) = match parseMag (c :: r) with
   | .ok u => if 9223372036854775808 ≤ u then .range else .ok (u : Int)
   | .range => .range
   | _ => atoiAll [] := by
   unfold atoiAll
   simp only []
   rw [if_neg (by omega)]
   have h45 : ¬ c.toNat = 45 := by omega
   simp only [h45, not_false_eq_true, true_and, false_and, if_false]
   cases parseMag (c :: r) <;> rfl
  have em : parseMag (c :: r) = parseUint10 0 (c :: r) := by unfold parseMag; rw [if_neg (by simp)]
  rw [em] at e
  by_cases g : n < 18446744073709551616
  ·rw [hp.1 g] at e
   simp only [] at e
   by_cases g2 : n < 9223372036854775808
   ·left; rw [if_neg (by omega)] at e; exact ⟨g2, e⟩
   ·right; rw [if_pos (by omega)] at e; exact ⟨by omega, fun v h => by rw [e] at h; cases h⟩
  ·right
   rw [hp.2 (by omega) (by omega)] at e
   exact ⟨by omega, fun v h => by rw [e] at h; cases h⟩

theorem atoi_any (l : List UInt8) (hl : l.length ≤ 1000000000) (w : World) (hE : GE w) :
  Calls Tryz.prog 96 #[.string ⟨l.toArray⟩] w fun e w' => Below w.heap.size w w' ∧
   ((∃ v, atoiAll l = .ok v ∧ e = .returned (.tuple #[.int .i64 v, .nilIface])) ∨ ((∀ v, atoiAll l ≠ .ok v) ∧ ∃ (n : Int) (N : Nat), (-9223372036854775808 ≤ n ∧ n ≤ 9223372036854775807) ∧ e = .returned (.tuple #[.int .i64 n, .iface 194 (.pointer (some ⟨N, 0, none⟩))]))) := by
 obtain ⟨ev, hev, hev2⟩ := hE.er
 obtain ⟨es, hes, hes2⟩ := hE.es
 have hb : (⟨l.toArray⟩ : ByteArray).size ≤ 1000000000 := by rw [bsize]; omega
 cases h : atoiAll l
 ·rename_i v
  refine (Tryz.strconv_Atoi_ok ⟨l.toArray⟩ (by omega) v h w).mono ?_
  rintro e w' ⟨rfl, hw⟩
  refine ⟨?_, .inl ⟨v, rfl, rfl⟩⟩
  rcases hw with rfl | ⟨t, rfl⟩
  ·exact Below.refl _ _
  ·exact Lib.bytesWorld_below _ _ _
 ·refine (Any.strconv_Atoi_syntax Tryz.laysC172 ⟨l.toArray⟩ (by omega) h es w hes hes2).mono ?_
  rintro e w' ⟨N, rfl, _, _, hB⟩
  exact ⟨hB, .inr ⟨(fun v g => by cases g), _, N, ⟨by decide, by decide⟩, rfl⟩⟩
 ·refine (Any.strconv_Atoi_range Tryz.laysC172 ⟨l.toArray⟩ (by omega) h ev w hev hev2).mono ?_
  rintro e w' ⟨N, rfl, _, _, hB⟩
  exact ⟨hB, .inr ⟨(fun v g => by cases g), _, N, Lib.atoiSat_bounds l, rfl⟩⟩
end Go.Proofs.YtkhlfggnjcbniaaGreatDoor.num
namespace Go.Proofs.YtkhlfggnjcbniaaGreatDoor.num
open Go.Lib

theorem parse_bd (l : List UInt8) : -1000000000000000000 ≤ (parseS l).1 ∧ (parseS l).1 ≤ 1000000000000000000 ∧ 0 ≤ (parseS l).2 ∧ (parseS l).2 ≤ 2 := by
 by_cases h : (parseS l).2 = 0
 ·have := (normal l h).1; omega
 ·have h1 : (parseS l).1 = 0 := by
   rcases parseT_err (negB l) (unsigned l) with g | g
   ·exact absurd g h
   ·exact g
  rw [h1]
  refine ⟨by decide, by decide, ?_⟩
  unfold parseS
  rw [parse_form]
  split
  ·simp
  ·rcases fin_err (negB l) (str.cut1 46 (unsigned l)).1 (str.cut1 46 (unsigned l)).2.1 with g | g
   ·rw [g]; simp
   ·rw [g]; simp

end Go.Proofs.YtkhlfggnjcbniaaGreatDoor.num
namespace Go.Proofs.YtkhlfggnjcbniaaGreatDoor
open Go.ChangeShapes Go.WideShapes Go.WideElems
section
variable {H : Type} {enc : TypeId × Value → H} {P : Program}
theorem trodAll_stays (hl : laidOutB P = true) {W W' : World} {sp' : Nat → Bool} : ∀ {ts : List TypeId} {vs : List Value} {ds : List (DataW H)} {ps : List MemPlace}, (∀ t ∈ ts, P.readableRec t = true ∧ t < P.types.size) →
  DataW.TrodAll enc P W 0 (fun _ => true) true ts vs ds ps → (∀ p ∈ ps, W.sameAt W' p) → (∀ p ∈ ps, sp' p.block = true) → DataW.TrodAll enc P W' 0 sp' true ts vs ds ps
 | [], vs, ds, ps, _, h, _, _ => by
  obtain ⟨rfl, rfl, rfl⟩ := trodAll_nil h
  exact trodAll_mk0
 | t :: ts, vs, ds, ps, ht, h, hs, hp => by
  obtain ⟨v, vs1, d, ds1, a, b, rfl, rfl, rfl, h1, h2⟩ := trodAll_cons h
  have e := ht t List.mem_cons_self
  exact ⟨a, b, Trod_stays hl e.1 e.2 h1 (fun p q => hs p (List.mem_append_left _ q)) (fun p q => hp p (List.mem_append_left _ q)),
   trodAll_stays hl (fun t q => ht t (List.mem_cons_of_mem _ q)) h2 (fun p q => hs p (List.mem_append_right _ q)) (fun p q => hp p (List.mem_append_right _ q)), rfl⟩
end
end Go.Proofs.YtkhlfggnjcbniaaGreatDoor
namespace Go.Proofs.YtkhlfggnjcbniaaGreatDoor.num
open Go.ChangeShapes Go.WideShapes Go.ChangeAt Go.RowKit Go.Lib

theorem trim_digits (l : List UInt8) (hl : l.length ≤ 1000000000) (w : World) :
  Calls Tryz.prog 95 #[.string ⟨l.toArray⟩, .string ⟨#[48, 49, 50, 51, 52, 53, 54, 55, 56, 57]⟩] w fun e w' => e = .returned (.string ⟨(trimS l digs).toArray⟩) ∧ Below w.heap.size w w' :=
 Any.strings_Trim_laid Tryz.lays160 (by kernel_rfl) ⟨l.toArray⟩ ⟨#[48, 49, 50, 51, 52, 53, 54, 55, 56, 57]⟩ w (by rw [bsize]; omega) (by decide) (ascii_of_all (by decide))

theorem ret_bool {a b : Bool} (h : a = b) : Ending.returned (.bool a) = .returned (.bool b) := by rw [h]

theorem digb_any (l : List UInt8) (hl : l.length ≤ 1000000000) (w : World) :
  Calls Tryz.prog 260 #[.string ⟨l.toArray⟩] w fun e w' => e = .returned (.bool (digB l)) ∧ Below w.heap.size w w' := by
 have ht := trim_digits l hl w
 have hq := trim_digs l
 cases l with
 | nil =>
  clear ht hq
  go_enter Tryz.func260, Tryz.ntmps260
  go_wp2_with fail
  go_ret
  exact ⟨rfl, Below.refl _ _⟩
 | cons c r =>
  have HQ := Lib.hid hq
  clear hq
  generalize trimS (c :: r) digs = x at ht HQ
  have HX : Hid (digB (c :: r) = (x == [])) := Lib.hid (by
   have := HQ.out
   unfold digB
   rw [Bool.eq_iff_iff]
   simp [this])
  go_enter Tryz.func260, Tryz.ntmps260
  go_wp2_with fail
  refine ht.mono ?_
  rintro e w' ⟨rfl, hB⟩
  clear ht
  cases x with
  | nil =>
   go_wp2_with fail
   go_ret
   exact ⟨ret_bool (by rw [HX.out]; rfl), hB⟩
  | cons a b =>
   go_wp2_with fail
   go_ret
   exact ⟨ret_bool (by rw [HX.out]; rfl), hB⟩
end Go.Proofs.YtkhlfggnjcbniaaGreatDoor.num
namespace Go.Proofs.YtkhlfggnjcbniaaGreatDoor.mom
open Go.ChangeShapes Go.WideShapes Go.ChangeAt Go.RowKit Go.Lib num cal days
def Tells (o : Option Int) (e : Ending) : Prop := ∃ (n : Int) (b : Bool), e = .returned (.tuple #[.int .i64 n, .bool b]) ∧ o = (if b then some n else none) ∧ -100000000000000000 ≤ n ∧ n ≤ 100000000000000000
def TellsU (o : Option Int) (e : Ending) : Prop := ∃ (n : Int) (b : Bool), e = .returned (.tuple #[.int .i64 n, .bool b]) ∧ o = (if b then some n else none)
theorem Tells.u {o : Option Int} {e : Ending} (h : Tells o e) : TellsU o e := h.elim fun n h => h.elim fun b h => ⟨n, b, h.1, h.2.1⟩

end Go.Proofs.YtkhlfggnjcbniaaGreatDoor.mom
namespace Go.Proofs.YtkhlfggnjcbniaaGreatDoor
open Go.RowKit

def RowAt (w : World) (v : Value) (n : Nat) (xs : List Value) : Prop :=
 (n = 0 ∧ xs = [] ∧ ∃ oa cap, v = .slice oa 0 cap) ∨ ∃ b off cap, v = .slice (some ⟨b, off, none⟩) n cap ∧ 0 < n ∧ b < w.heap.size ∧ ∀ j u, xs[j]? = some u → w.cell? ⟨b, off + j, none⟩ = some u
theorem RowAt.below {w w' : World} {v : Value} {n : Nat} {xs : List Value} (h : RowAt w v n xs) {m : Nat} (hb : Below m w w') (hm : w.heap.size ≤ m) : RowAt w' v n xs := by
 rcases h with h | ⟨b, off, cap, h1, h0, h2, h3⟩
 ·exact .inl h
 ·exact .inr ⟨b, off, cap, h1, h0, Nat.lt_of_lt_of_le h2 hb.size, fun j u hj => (hb.cell (p := ⟨b, off + j, none⟩) (Nat.lt_of_lt_of_le h2 hm)).trans (h3 j u hj)⟩
theorem RowAt.of_owns {w : World} {base : Nat} {e : TypeId} {size : Nat} {v : Value} {n : Nat} {xs : List Value} (h : w.ownsRow base e size v n xs) : RowAt w v n xs := by
 rcases Nat.eq_zero_or_pos n with h0 | h0
 ·left
  have hl := h.1
  rw [h0, Nat.zero_mul] at hl
  refine ⟨h0, List.length_eq_zero_iff.1 hl, ?_⟩
  rcases h.2 with ⟨rfl, _⟩ | ⟨g, cap, cur, rfl, _⟩
  ·exact ⟨_, _, rfl⟩
  ·exact ⟨_, _, by rw [h0]⟩
 ·right
  rcases h.2 with ⟨_, h1⟩ | ⟨g, cap, cur, hv, hg, hc, h1, h2, h3, h4⟩
  ·omega
  ·subst hv
   refine ⟨g, 0, cap, rfl, h0, ?_, ?_⟩
   ·apply Nat.lt_of_not_le; intro k
    rw [Array.getElem?_eq_none k] at hc; cases hc
   ·intro j u hj
    rw [Nat.zero_add, h.cellAt j (by rw [← h.1]; exact (List.getElem?_eq_some_iff.1 hj).1)]
    exact hj
theorem RowAt.lenN {w : World} {v : Value} {n : Nat} {xs : List Value} (h : RowAt w v n xs) : ∃ oa cap, v = .slice oa n cap := by
 rcases h with ⟨rfl, _, oa, cap, rfl⟩ | ⟨b, off, cap, rfl, _⟩
 ·exact ⟨_, _, rfl⟩
 ·exact ⟨_, _, rfl⟩
theorem flat_len {α : Type} (f : α → List Value) (size : Nat) (hf : ∀ x, (f x).length = size) (l : List α) : (l.flatMap f).length = l.length * size := by
 induction l with
 | nil => simp
 | cons x r ih => rw [List.flatMap_cons, List.length_append, hf, ih, List.length_cons, Nat.add_mul, Nat.one_mul, Nat.add_comm]
theorem flat_at {α : Type} (f : α → List Value) (size : Nat) (hf : ∀ x, (f x).length = size) (l : List α) (j : Nat) (h : j < l.length) (i : Nat) (hi : i < size) : (l.flatMap f)[j * size + i]? = (f l[j])[i]? := by
 induction l generalizing j with
 | nil => exact absurd h (Nat.not_lt_zero _)
 | cons x r ih =>
  rw [List.flatMap_cons]
  cases j with
  | zero => rw [Nat.zero_mul, Nat.zero_add, List.getElem?_append_left (by rw [hf]; exact hi)]; rfl
  | succ j =>
   rw [List.getElem?_append_right (by rw [hf, Nat.add_mul]; omega), hf, show (j + 1) * size + i - size = j * size + i from by rw [Nat.add_mul]; omega]
   exact ih j (by simpa using h)
end Go.Proofs.YtkhlfggnjcbniaaGreatDoor
namespace Go.Proofs.YtkhlfggnjcbniaaGreatDoor.cln
open Go.Lib str link
def blanks : List UInt8 := [9, 10, 12, 13, 32]
def isB (c : UInt8) : Bool := blanks.contains c
def stripB (s : List UInt8) : List UInt8 := trimS s blanks
theorem stripB_le (s : List UInt8) : (stripB s).length ≤ s.length := by
 unfold stripB trimS trimLeftS trimRightS
 have h1 := (List.dropWhile_sublist (fun c => blanks.contains c) (l := (s.reverse.dropWhile (fun c => blanks.contains c)).reverse)).length_le
 have h2 := (List.dropWhile_sublist (fun c => blanks.contains c) (l := s.reverse)).length_le
 rw [List.length_reverse] at h1 h2
 omega
end Go.Proofs.YtkhlfggnjcbniaaGreatDoor.cln
namespace Go.Proofs.YtkhlfggnjcbniaaGreatDoor.doc
open cln

def colS (out : List UInt8) (ahead : Bool) : List UInt8 → List UInt8
 | [] => out
 | c :: r => if isB c then colS out (decide (0 < out.length)) r else colS (out ++ (if ahead then [32] else []) ++ [c]) false r
def collapseS (s : List UInt8) : List UInt8 := colS [] false s
end Go.Proofs.YtkhlfggnjcbniaaGreatDoor.doc
namespace Go.Proofs.YtkhlfggnjcbniaaGreatDoor.ctl
open Go.ChangeShapes Go.WideShapes Go.ChangeAt Go.RowKit Go.Lib

def ctlV (v : List UInt8) (d t ch dc m s ds : Bool) (cu : List UInt8) (f : Value) : Value :=
 .agg #[.string ⟨v.toArray⟩, .bool d, .bool t, .bool ch, .bool dc, .bool m, .bool s, .bool ds, .string ⟨cu.toArray⟩, f]
def encE (x : Ent) : List Value := [.string ⟨x.name.toArray⟩, .string ⟨x.value.toArray⟩, .bool x.file, .string ⟨x.fname.toArray⟩, .string ⟨x.typ.toArray⟩]
theorem encE_len (x : Ent) : (encE x).length = 5 := rfl
def EntsAt (w : World) (v : Value) (fs : List Ent) : Prop := RowAt w v fs.length (fs.flatMap encE)
def IsSl (f : Value) : Prop := ∃ a n c, f = .slice a n c
theorem EntsAt.isSl {w : World} {v : Value} {fs : List Ent} (h : EntsAt w v fs) : IsSl v := by
 obtain ⟨a, c, e⟩ := RowAt.lenN h
 exact ⟨a, _, c, e⟩
theorem EntsAt.below {w w' : World} {v : Value} {fs : List Ent} (h : EntsAt w v fs) (hb : Below w.heap.size w w') : EntsAt w' v fs := RowAt.below h hb (Nat.le_refl _)
theorem EntsAt.nil (w : World) : EntsAt w (.slice none 0 0) [] := .inl ⟨rfl, rfl, _, _, rfl⟩
end Go.Proofs.YtkhlfggnjcbniaaGreatDoor.ctl
namespace Go.Proofs.YtkhlfggnjcbniaaGreatDoor.link
open Go.ChangeShapes Go.WideShapes Go.ChangeAt Go.RowKit Go.Lib

def hexN (c : Nat) : Int := if 48 ≤ c ∧ c ≤ 57 then (c : Int) - 48 else if 65 ≤ c ∧ c ≤ 70 then (c : Int) - 55 else if 97 ≤ c ∧ c ≤ 102 then (c : Int) - 87 else -1

end Go.Proofs.YtkhlfggnjcbniaaGreatDoor.link
namespace Go.Proofs.YtkhlfggnjcbniaaGreatDoor.pat
open Go.Lib

def runesF : Nat → List UInt8 → List Int
 | 0, _ => []
 | f + 1, l => if l = [] then [] else ((decodeL l).1 : Int) :: runesF f (l.drop (decodeL l).2)
def runes (l : List UInt8) : List Int := runesF l.length l
theorem runesF_nil (f : Nat) : runesF f [] = [] := by cases f <;> simp [runesF]
theorem runesF_fuel : ∀ (f g : Nat) (l : List UInt8), l.length ≤ f → l.length ≤ g → runesF f l = runesF g l
 | 0, g, l, hf, _ => by
  obtain rfl : l = [] := List.eq_nil_of_length_eq_zero (by omega)
  rw [runesF_nil, runesF_nil]
 | f + 1, 0, l, _, hg => by
  obtain rfl : l = [] := List.eq_nil_of_length_eq_zero (by omega)
  rw [runesF_nil, runesF_nil]
 | f + 1, g + 1, l, hf, hg => by
  unfold runesF
  by_cases h : l = []
  ·rw [if_pos h, if_pos h]
  ·have hw := decodeL_width l
   have h0 : 0 < l.length := List.length_pos_iff.2 h
   rw [if_neg h, if_neg h, runesF_fuel f g _ (by rw [List.length_drop]; omega) (by rw [List.length_drop]; omega)]
theorem runes_nil : runes [] = [] := rfl
theorem runes_cons (l : List UInt8) (h : l ≠ []) : runes l = ((decodeL l).1 : Int) :: runes (l.drop (decodeL l).2) := by
 have hw := decodeL_width l
 have h0 : 0 < l.length := List.length_pos_iff.2 h
 obtain ⟨n, hn⟩ : ∃ n, l.length = n + 1 := ⟨l.length - 1, by omega⟩
 unfold runes
 rw [hn, runesF, if_neg h, runesF_fuel n (l.drop (decodeL l).2).length _ (by rw [List.length_drop]; omega) (Nat.le_refl _)]
theorem runes_eq_nil (l : List UInt8) : runes l = [] ↔ l = [] := by
 constructor
 ·intro h
  by_cases g : l = []
  ·exact g
  ·rw [runes_cons l g] at h; cases h
 ·rintro rfl; rfl
theorem runes_len : ∀ (n : Nat) (l : List UInt8), l.length ≤ n → (runes l).length ≤ l.length
 | 0, l, h => by
  obtain rfl : l = [] := List.eq_nil_of_length_eq_zero (by omega)
  exact Nat.le_refl _
 | n + 1, l, h => by
  by_cases g : l = []
  ·subst g; exact Nat.le_refl _
  ·have hw := decodeL_width l
   have h0 : 0 < l.length := List.length_pos_iff.2 g
   have hd := decodeL_le l g
   have := runes_len n (l.drop (decodeL l).2) (by rw [List.length_drop]; omega)
   rw [runes_cons l g, List.length_cons]
   rw [List.length_drop] at this
   omega
theorem runes_le (l : List UInt8) : (runes l).length ≤ l.length := runes_len _ l (Nat.le_refl _)
end Go.Proofs.YtkhlfggnjcbniaaGreatDoor.pat
