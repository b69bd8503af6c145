/- Plain laws on numbers told as texts. No program in sight. -/
import Derived.Test.YtbaloklcpfjmeaaGreatDoorNumPure
import Derived.WalkKit
namespace Go.Proofs.YtbaloklcpfjmeaaGreatDoor.num
open Go.Lib

/-- the six digits behind the point, without the noughts at the end -/
def frac (r : Nat) : List UInt8 := strip ((decDigits (1000000 + r)).drop 1)

def showS (n : Int) : List UInt8 :=
  let s := (if n < 0 then [45] else []) ++ decDigits (n.natAbs / 1000000)
  if n.natAbs % 1000000 = 0 then s else s ++ 46 :: frac (n.natAbs % 1000000)

/-- k digits of a number of millionths -/
def P : Nat → Nat → List UInt8
  | 0, _ => []
  | k + 1, r => UInt8.ofNat (48 + r / 100000) :: P k (r % 100000 * 10)

/-- as the reference goes through them -/
def frL : Nat → Nat → List UInt8
  | 0, _ => []
  | k + 1, r => if r = 0 then [] else UInt8.ofNat (48 + r / 100000) :: frL k (r % 100000 * 10)

theorem ofNat48 (k : Nat) (hk : k < 10) : UInt8.ofNat (48 + k) = 48 ↔ k = 0 := by
  constructor
  · intro h
    have := congrArg UInt8.toNat h
    rw [UInt8.toNat_ofNat'] at this
    have e : (48 : UInt8).toNat = 48 := rfl
    omega
  · rintro rfl; rfl

theorem strip_P0 (k : Nat) : strip (P k 0) = [] := by
  induction k with
  | zero => rfl
  | succ k ih =>
    have e : P (k + 1) 0 = 48 :: P k 0 := rfl
    rw [e, strip_zero _ ih]

theorem frL_nil (k r : Nat) (h : frL k r = []) : k = 0 ∨ r = 0 := by
  cases k with
  | zero => exact Or.inl rfl
  | succ k =>
    unfold frL at h
    by_cases h0 : r = 0
    · exact Or.inr h0
    · rw [if_neg h0] at h; cases h

theorem dvd_step (k r : Nat) (hk : k + 1 ≤ 6) (hq : ∃ q, r = q * 10 ^ (6 - (k + 1))) : ∃ q', r % 100000 * 10 = q' * 10 ^ (6 - k) := by
  obtain ⟨q, hq⟩ := hq
  have e : 6 - k = (6 - (k + 1)) + 1 := by omega
  have hd : 10 ^ (6 - (k + 1)) ∣ 100000 := by
    rw [show (100000 : Nat) = 10 ^ 5 from rfl]; exact Nat.pow_dvd_pow 10 (by omega)
  obtain ⟨d, hd⟩ := hd
  have hm : r % 100000 = (q % d) * 10 ^ (6 - (k + 1)) := by
    rw [hq, hd, Nat.mul_comm q, Nat.mul_mod_mul_left, Nat.mul_comm]
  exact ⟨q % d, by rw [hm, e, Nat.pow_succ, Nat.mul_assoc]⟩

theorem dvd_end (r : Nat) (hr : r < 1000000) (hq : ∃ q, r = q * 10 ^ (6 - 0)) : r = 0 := by
  obtain ⟨q, hq⟩ := hq
  rw [show 10 ^ (6 - 0) = 1000000 from rfl] at hq
  omega

/-- a string's length, as a loop's measure -/
def strLen : Go.Value → Nat
  | .string b => b.size
  | _ => 0

theorem strLen_mk (l : List UInt8) : strLen (.string ⟨l.toArray⟩) = l.length := rfl

theorem strip_P (k : Nat) : ∀ r, r < 1000000 → k ≤ 6 → (∃ q, r = q * 10 ^ (6 - k)) → strip (P k r) = frL k r := by
  induction k with
  | zero => intro r _ _ _; rfl
  | succ k ih =>
    intro r hr hk hq
    by_cases h0 : r = 0
    · subst h0
      rw [strip_P0]; unfold frL; rw [if_pos rfl]
    · unfold P frL
      rw [if_neg h0]
      obtain ⟨q, hq⟩ := hq
      have hq' : ∃ q', r % 100000 * 10 = q' * 10 ^ (6 - k) := by
        have e : 6 - k = (6 - (k + 1)) + 1 := by omega
        have hd : 10 ^ (6 - (k + 1)) ∣ 100000 := by
          rw [show (100000 : Nat) = 10 ^ 5 from rfl]; exact Nat.pow_dvd_pow 10 (by omega)
        obtain ⟨d, hd⟩ := hd
        have hm : r % 100000 = (q % d) * 10 ^ (6 - (k + 1)) := by
          rw [hq, hd, Nat.mul_comm q, Nat.mul_mod_mul_left, Nat.mul_comm]
        exact ⟨q % d, by rw [hm, e, Nat.pow_succ, Nat.mul_assoc]⟩
      have hi := ih (r % 100000 * 10) (by omega) (by omega) hq'
      rw [← hi]
      refine strip_keep _ _ ?_
      by_cases hs : strip (P k (r % 100000 * 10)) = []
      · right
        intro hc
        have hz := (ofNat48 (r / 100000) (by omega)).1 hc
        rw [hi] at hs
        rcases frL_nil _ _ hs with h | h
        · subst h
          rw [show 6 - (0 + 1) = 5 from rfl, show 10 ^ 5 = 100000 from rfl] at hq
          omega
        · omega
      · left; exact hs

theorem nDigits7 (r : Nat) (h : r < 1000000) : nDigits (1000000 + r) = 7 := nDigits_unique 6 _ (by omega) (by omega)

theorem pad6 (r : Nat) (h : r < 1000000) : (decDigits (1000000 + r)).drop 1 = P 6 r := by
  rw [decDigits_eq, nDigits7 r h]
  simp only [List.range, List.range.loop, List.map, List.drop, P, dg]
  rw [show 10 ^ (7 - 1 - 1) = 100000 from rfl, show 10 ^ (7 - 1 - 2) = 10000 from rfl, show 10 ^ (7 - 1 - 3) = 1000 from rfl, show 10 ^ (7 - 1 - 4) = 100 from rfl, show 10 ^ (7 - 1 - 5) = 10 from rfl, show 10 ^ (7 - 1 - 6) = 1 from rfl]
  rw [show (1000000 + r) / 100000 % 10 = r / 100000 by omega, show (1000000 + r) / 10000 % 10 = r % 100000 * 10 / 100000 by omega,
    show (1000000 + r) / 1000 % 10 = r % 100000 * 10 % 100000 * 10 / 100000 by omega,
    show (1000000 + r) / 100 % 10 = r % 100000 * 10 % 100000 * 10 % 100000 * 10 / 100000 by omega,
    show (1000000 + r) / 10 % 10 = r % 100000 * 10 % 100000 * 10 % 100000 * 10 % 100000 * 10 / 100000 by omega,
    show (1000000 + r) / 1 % 10 = r % 100000 * 10 % 100000 * 10 % 100000 * 10 % 100000 * 10 % 100000 * 10 / 100000 by omega]

theorem frac_eq (r : Nat) (h : r < 1000000) : frac r = frL 6 r := by
  unfold frac
  rw [pad6 r h]
  exact strip_P 6 r h (by omega) ⟨r, by simp⟩

theorem P_dig (k : Nat) : ∀ r, r < 1000000 → allDig (P k r) = true ∧ (P k r).length = k := by
  induction k with
  | zero => intro r _; exact ⟨rfl, rfl⟩
  | succ k ih =>
    intro r h
    have h1 := ih (r % 100000 * 10) (by omega)
    unfold P
    rw [allDig_cons, h1.1]
    refine ⟨?_, by simp [h1.2]⟩
    have : isDig (UInt8.ofNat (48 + r / 100000)) = true := by
      rw [isDig_iff, UInt8.toNat_ofNat']
      omega
    rw [this]; rfl

theorem frL_len (k : Nat) : ∀ r, (frL k r).length ≤ k := by
  induction k with
  | zero => intro r; exact Nat.le_refl _
  | succ k ih => intro r; unfold frL; split; simp; simp; exact ih _

end Go.Proofs.YtbaloklcpfjmeaaGreatDoor.num
