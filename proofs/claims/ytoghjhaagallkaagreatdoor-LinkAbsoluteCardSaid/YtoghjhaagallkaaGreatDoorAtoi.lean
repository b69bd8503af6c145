/- strconv.Atoi at every text; and what it tells of digits. -/
import Derived.Test.YtoghjhaagallkaaGreatDoorValue
import Derived.Test.YtoghjhaagallkaaGreatDoorShelf
namespace Go.Proofs.YtoghjhaagallkaaGreatDoor.link
open Go.ChangeShapes Go.WideShapes Go.ChangeAt Go.RowKit Go.Lib

/-- a digit more -/
@[irreducible] def dg (n : Nat) (c : UInt8) : Nat := 10 * n + (c.toNat - 48)
theorem dg_eq (n : Nat) (c : UInt8) : dg n c = 10 * n + (c.toNat - 48) := by unfold dg; rfl
/-- the number that digits tell -/
def decV : Nat → List UInt8 → Nat
  | n, [] => n
  | n, c :: r => decV (dg n c) r
theorem decV_cons (n : Nat) (c : UInt8) (r : List UInt8) : decV n (c :: r) = decV (10 * n + (c.toNat - 48)) r := by rw [← dg_eq]; rfl

theorem decV_ge (l : List UInt8) : ∀ n, n ≤ decV n l := by
  induction l with
  | nil => intro n; exact Nat.le_refl _
  | cons c r ih => intro n; have := ih (10 * n + (c.toNat - 48)); rw [decV_cons]; omega

theorem valN_ge (l : List UInt8) : ∀ n, n ≤ valN n l := by
  induction l with
  | nil => intro n; exact Nat.le_refl _
  | cons c r ih =>
    intro n
    rw [valN]
    split
    · have := ih (10 * n + (c.toNat - 48)); omega
    · exact ih n

theorem valN_dec (B : Nat) (hB : B < 1000000) (l : List UInt8) : ∀ n, (valN n l ≤ B ↔ decV n l ≤ B) := by
  induction l with
  | nil => intro n; exact Iff.rfl
  | cons c r ih =>
    intro n
    rw [valN, decV_cons]
    by_cases h : n < 1000000
    · rw [if_pos h]; exact ih _
    · rw [if_neg h]
      have h1 := valN_ge r n
      have h2 := decV_ge r (10 * n + (c.toNat - 48))
      omega

theorem parse_dec (l : List UInt8) : ∀ n, digsA l = true → (decV n l < 18446744073709551616 → parseUint10 n l = .ok (decV n l)) ∧ (18446744073709551616 ≤ decV n l → n < 18446744073709551616 → parseUint10 n l = .range) := by
  induction l with
  | nil => intro n _; exact ⟨fun _ => rfl, fun h g => absurd h (by unfold decV; omega)⟩
  | cons c r ih =>
    intro n hd
    rw [digsA, Bool.and_eq_true] at hd
    obtain ⟨h1, h2⟩ := hd
    have hc : 48 ≤ c.toNat ∧ c.toNat ≤ 57 := by unfold digC at h1; simpa using h1
    have hg := decV_ge r (10 * n + (c.toNat - 48))
    have hcm : n * 10 + (c.toNat - 48) = 10 * n + (c.toNat - 48) := by omega
    rw [parseUint10, if_pos hc, decV_cons, hcm]
    obtain ⟨i1, i2⟩ := ih (10 * n + (c.toNat - 48)) h2
    constructor
    · intro h
      rw [if_neg (by omega), if_neg (by omega)]
      exact i1 h
    · intro h hn
      by_cases g1 : 1844674407370955162 ≤ n
      · rw [if_pos g1]
      · rw [if_neg g1]
        by_cases g2 : 18446744073709551616 ≤ 10 * n + (c.toNat - 48)
        · rw [if_pos g2]
        · rw [if_neg g2]
          exact i2 h (by omega)

/-- of digits: the number, if it fits an int; else none -/
theorem atoi_dec (l : List UInt8) (hd : digsB l = true) : (decV 0 l < 9223372036854775808 ∧ atoiAll l = .ok (decV 0 l : Int)) ∨ (9223372036854775808 ≤ decV 0 l ∧ ∀ v, atoiAll l ≠ .ok v) := by
  unfold digsB at hd
  rw [Bool.and_eq_true] at hd
  obtain ⟨h1, h2⟩ := hd
  cases l with
  | nil => cases h1
  | cons c r =>
    have hp := parse_dec (c :: r) 0 h2
    have hc : 48 ≤ c.toNat ∧ c.toNat ≤ 57 := by
      rw [digsA, Bool.and_eq_true] at h2
      have := h2.1
      unfold digC at this; simpa using this
    generalize decV 0 (c :: r) = n at *
    have e : atoiAll (c :: r) = match parseMag (c :: r) with
      | .ok u => if 9223372036854775808 ≤ u then .range else .ok (u : Int)
      | .range => .range
      | _ => atoiAll [] := by
      unfold atoiAll
      simp only []
      rw [if_neg (by omega)]
      have h45 : ¬ c.toNat = 45 := by omega
      simp only [h45, not_false_eq_true, true_and, false_and, if_false]
      cases parseMag (c :: r) <;> rfl
    have em : parseMag (c :: r) = parseUint10 0 (c :: r) := by unfold parseMag; rw [if_neg (by simp)]
    rw [em] at e
    by_cases g : n < 18446744073709551616
    · rw [hp.1 g] at e
      simp only [] at e
      by_cases g2 : n < 9223372036854775808
      · left; rw [if_neg (by omega)] at e; exact ⟨g2, e⟩
      · right; rw [if_pos (by omega)] at e; exact ⟨by omega, fun v h => by rw [e] at h; cases h⟩
    · right
      rw [hp.2 (by omega) (by omega)] at e
      exact ⟨by omega, fun v h => by rw [e] at h; cases h⟩

/-- a number of digits, held against a bound -/
theorem atoi_bound (l : List UInt8) (hd : digsB l = true) (B : Nat) (hB : B < 1000000) :
    (∃ v : Int, atoiAll l = .ok v ∧ v ≤ 9223372036854775807 ∧ ((B : Int) < v ↔ B < valN 0 l)) ∨ ((∀ v, atoiAll l ≠ .ok v) ∧ B < valN 0 l) := by
  have hv := valN_dec B hB l 0
  rcases atoi_dec l hd with ⟨h1, h2⟩ | ⟨h1, h2⟩
  · left; exact ⟨_, h2, by omega, by omega⟩
  · right; exact ⟨h2, by omega⟩

/-- three digits at most: an int -/
theorem decV_small (l : List UInt8) : ∀ n, digsA l = true → decV n l < (n + 1) * 10 ^ l.length := by
  induction l with
  | nil => intro n _; simp [decV]
  | cons c r ih =>
    intro n hd
    rw [digsA, Bool.and_eq_true] at hd
    have hc : 48 ≤ c.toNat ∧ c.toNat ≤ 57 := by have := hd.1; unfold digC at this; simpa using this
    have h := ih (10 * n + (c.toNat - 48)) hd.2
    rw [decV_cons, List.length_cons, Nat.pow_succ]
    have h2 : (10 * n + (c.toNat - 48) + 1) * 10 ^ r.length ≤ (n + 1) * 10 * 10 ^ r.length := Nat.mul_le_mul_right _ (by omega)
    have h3 : (n + 1) * 10 * 10 ^ r.length = (n + 1) * (10 ^ r.length * 10) := by rw [Nat.mul_assoc, Nat.mul_comm 10]
    omega

set_option maxRecDepth 100000 in
/-- strconv.Atoi: the number and no error, or some number and an error -/
theorem atoi_any (l : List UInt8) (hl : l.length ≤ 1000000000) (w : World) (hE : GE w) :
    Calls Tryz.prog 31 #[.string ⟨l.toArray⟩] w fun e w' => Below w.heap.size w w' ∧
      ((∃ v, atoiAll l = .ok v ∧ e = .returned (.tuple #[.int .i64 v, .nilIface])) ∨ ((∀ v, atoiAll l ≠ .ok v) ∧ ∃ n N, e = .returned (.tuple #[.int .i64 n, .iface 70 (.pointer (some ⟨N, 0, none⟩))]))) := by
  obtain ⟨ev, hev, hev2⟩ := hE.er
  obtain ⟨es, hes, hes2⟩ := hE.es
  have hb : (⟨l.toArray⟩ : ByteArray).size ≤ 1000000000 := by rw [bsize]; omega
  cases h : atoiAll l
  · rename_i v
    refine (Tryz.strconv_Atoi_ok ⟨l.toArray⟩ (by omega) v h w).mono ?_
    rintro e w' ⟨rfl, hw⟩
    refine ⟨?_, .inl ⟨v, rfl, rfl⟩⟩
    rcases hw with rfl | ⟨t, rfl⟩
    · exact Below.refl _ _
    · exact Lib.bytesWorld_below _ _ _
  · refine (Any.strconv_Atoi_syntax Tryz.laysC172 ⟨l.toArray⟩ (by omega) h es w hes hes2).mono ?_
    rintro e w' ⟨N, rfl, _, _, hB⟩
    exact ⟨hB, .inr ⟨(fun v g => by cases g), _, N, rfl⟩⟩
  · refine (Any.strconv_Atoi_range Tryz.laysC172 ⟨l.toArray⟩ (by omega) h ev w hev hev2).mono ?_
    rintro e w' ⟨N, rfl, _, _, hB⟩
    exact ⟨hB, .inr ⟨(fun v g => by cases g), _, N, rfl⟩⟩
end Go.Proofs.YtoghjhaagallkaaGreatDoor.link
