/- The contract of the reference's clock. -/
import Derived.Test.YtbaloklcpfjmeaaGreatDoorRDayT
namespace Go.Proofs.YtbaloklcpfjmeaaGreatDoor.mom
open Go.ChangeShapes Go.WideShapes Go.ChangeAt Go.RowKit Go.Lib Go.Proofs.YtbaloklcpfjmeaaGreatDoor.num Go.Proofs.YtbaloklcpfjmeaaGreatDoor.cal Go.Proofs.YtbaloklcpfjmeaaGreatDoor.days

theorem twoR_drop (l : List UInt8) (p k : Nat) (h : p ≤ l.length) : twoR (l.drop p) k = twoR l (p + k) := by
  have e := twoR_at (l.take p) (l.drop p) k
  rw [List.take_append_drop, List.length_take, Nat.min_eq_left h] at e
  exact e.symm
theorem signR_drop (l : List UInt8) (p k : Nat) (c : UInt8) (h : p ≤ l.length) : signR (l.drop p) k c = signR l (p + k) c := by
  have e := signR_at (l.take p) (l.drop p) k c
  rw [List.take_append_drop, List.length_take, Nat.min_eq_left h] at e
  exact e.symm
theorem digR_drop (l : List UInt8) (p k : Nat) (h : p ≤ l.length) : digR (l.drop p) k = digR l (p + k) := by
  have e := digR_at (l.take p) (l.drop p) k
  rw [List.take_append_drop, List.length_take, Nat.min_eq_left h] at e
  exact e.symm
theorem dvR_drop (l : List UInt8) (p k : Nat) (h : p ≤ l.length) : dvR (l.drop p) k = dvR l (p + k) := by
  have e := dvR_at (l.take p) (l.drop p) k
  rw [List.take_append_drop, List.length_take, Nat.min_eq_left h] at e
  exact e.symm
theorem allDig_iff (l : List UInt8) : allDig l = true ↔ ∀ k, k < l.length → digR l k = true := by
  unfold allDig
  rw [List.all_eq_true]
  constructor
  · intro h k hk
    unfold digR
    rw [List.getElem?_eq_getElem hk]
    exact h _ (List.getElem_mem hk)
  · intro h c hc
    obtain ⟨k, hk, rfl⟩ := List.getElem_of_mem hc
    have := h k hk
    unfold digR at this
    rw [List.getElem?_eq_getElem hk] at this
    exact this

def clockL (len : Nat) (x1 : Bool) (h m : Int) (x2 : Bool) (s : Int) (x3 : Bool) (f : Option Int) : Option Int :=
  if len < 5 ∨ x1 = false then none
  else if h < 0 ∨ 23 < h ∨ m < 0 ∨ 59 < m then none
  else if len = 5 then some (h * 3600000 + m * 60000)
  else if x2 = false ∨ s < 0 ∨ 59 < s then none
  else if len = 8 then some (h * 3600000 + m * 60000 + s * 1000)
  else if x3 = false ∨ len < 10 ∨ 12 < len then none
  else f.map (fun a => h * 3600000 + m * 60000 + s * 1000 + a)
def fracR (l : List UInt8) : Option Int := if allDig (l.drop 9) = true then some ((val (l.drop 9) * 10 ^ (12 - l.length) : Nat) : Int) else none
theorem clockR_L (l : List UInt8) : clockR l = clockL l.length (signR l 2 58) (twoR l 0) (twoR l 3) (signR l 5 58) (twoR l 6) (signR l 8 46) (fracR l) := by
  unfold clockR clockL
  by_cases h1 : l.length < 5 ∨ signR l 2 58 = false
  · rw [if_pos h1, if_pos h1]
  · rw [if_neg h1, if_neg h1]
    have h5 : 5 ≤ l.length := by omega
    by_cases h2 : twoR l 0 < 0 ∨ 23 < twoR l 0 ∨ twoR l 3 < 0 ∨ 59 < twoR l 3
    · rw [if_pos h2, if_pos h2]
    · rw [if_neg h2, if_neg h2]
      unfold clockT
      rw [signR_drop l 5 0 58 h5, twoR_drop l 5 1 h5, signR_drop l 5 3 46 h5, List.length_drop, List.drop_drop]
      have k0 : (l.length - 5 = 0) ↔ l.length = 5 := by omega
      have k3 : (l.length - 5 = 3) ↔ l.length = 8 := by omega
      have k5 : (l.length - 5 < 5) ↔ l.length < 10 := by omega
      have k7 : (7 < l.length - 5) ↔ 12 < l.length := by omega
      have kp : 7 - (l.length - 5) = 12 - l.length := by omega
      simp only [k0, k3, k5, k7, kp]
      unfold fracR
      by_cases h3 : l.length = 5
      · rw [if_pos h3, if_pos h3]
      · rw [if_neg h3, if_neg h3]
        by_cases h4 : signR l 5 58 = false ∨ twoR l 6 < 0 ∨ 59 < twoR l 6
        · rw [if_pos h4, if_pos h4]
        · rw [if_neg h4, if_neg h4]
          by_cases h5 : l.length = 8
          · rw [if_pos h5, if_pos h5]
          · rw [if_neg h5, if_neg h5]
            by_cases h6 : signR l 8 46 = false ∨ l.length < 10 ∨ 12 < l.length
            · rw [if_pos h6, if_pos h6]
            · rw [if_neg h6, if_neg h6]
              by_cases h7 : allDig (l.drop 9) = true
              · rw [if_pos h7, if_pos h7]; rfl
              · rw [if_neg h7, if_neg h7]; rfl

/-- the fraction of the first i places -/
def pv (l : List UInt8) (i : Nat) : Nat := val ((l.drop 9).take (i - 9)) * 10 ^ (12 - i)
theorem pv_9 (l : List UInt8) : pv l 9 = 0 := by unfold pv; simp [val_nil]
theorem pv_next (l : List UInt8) (i u : Nat) (h1 : 9 ≤ i) (h2 : i < 12) (hu : u = 10 ^ (11 - i)) (h3 : digR l i = true) : pv l (i + 1) = pv l i + dvR l i * u := by
  obtain ⟨g, _⟩ := digR_byte l i h3
  have e9 : 9 ≤ l.length := by omega
  have e : 9 + (i - 9) = i := by omega
  have hd := digR_drop l 9 (i - 9) e9
  have hv := dvR_drop l 9 (i - 9) e9
  rw [e] at hd hv
  unfold pv
  rw [show i + 1 - 9 = i - 9 + 1 from by omega, val_take_succ (l.drop 9) (i - 9) (by rw [hd]; exact h3), hv, hu, show 12 - (i + 1) = 11 - i from by omega, show 12 - i = (11 - i) + 1 from by omega, Nat.pow_succ, Nat.add_mul, Nat.mul_assoc, Nat.mul_comm 10]
theorem pv_end (l : List UInt8) (_h : 9 ≤ l.length) : pv l l.length = val (l.drop 9) * 10 ^ (12 - l.length) := by
  unfold pv
  rw [List.take_of_length_le (by simp)]
theorem frac_yes (l : List UInt8) (h : 9 ≤ l.length) (hd : ∀ k, 9 ≤ k → k < l.length → digR l k = true) : fracR l = some ((pv l l.length : Nat) : Int) := by
  unfold fracR
  rw [if_pos, pv_end l h]
  rw [allDig_iff]
  intro k hk
  rw [List.length_drop] at hk
  rw [digR_drop l 9 k h]
  exact hd (9 + k) (by omega) (by omega)
theorem frac_no (l : List UInt8) (i : Nat) (h1 : 9 ≤ i) (h2 : i < l.length) (hd : digR l i = false) : fracR l = none := by
  unfold fracR
  rw [if_neg]
  rw [allDig_iff]
  intro g
  have := g (i - 9) (by rw [List.length_drop]; omega)
  rw [digR_drop l 9 (i - 9) (by omega), show 9 + (i - 9) = i from by omega, hd] at this
  cases this
end Go.Proofs.YtbaloklcpfjmeaaGreatDoor.mom
