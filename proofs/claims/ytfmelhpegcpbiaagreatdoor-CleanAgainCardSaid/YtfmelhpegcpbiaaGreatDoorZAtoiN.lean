/- strconv.Atoi at every text; of digits it is their number. -/
import Derived.Test.YtfmelhpegcpbiaaGreatDoorMa
import Derived.Test.YtfmelhpegcpbiaaGreatDoorShelf
import Derived.Shelf.Strconv.AtoiAll
namespace Go.Proofs.YtfmelhpegcpbiaaGreatDoor.num
open Go.ChangeShapes Go.WideShapes Go.ChangeAt Go.RowKit Go.Lib

theorem isDig_nat (c : UInt8) (h : isDig c = true) : 48 ≤ c.toNat ∧ c.toNat ≤ 57 := by
  have := (isDig_iff c).1 h
  omega

theorem parse_val (l : List UInt8) : ∀ n, allDig l = true → (valFrom n l < 18446744073709551616 → parseUint10 n l = .ok (valFrom n l)) ∧ (18446744073709551616 ≤ valFrom n l → n < 18446744073709551616 → parseUint10 n l = .range) := by
  induction l with
  | nil => intro n _; exact ⟨fun _ => rfl, fun h g => absurd h (by show ¬ _ ≤ n; omega)⟩
  | cons c r ih =>
    intro n hd
    rw [allDig_cons, Bool.and_eq_true] at hd
    obtain ⟨h1, h2⟩ := hd
    have hc := isDig_nat c h1
    have hg := valFrom_ge (n * 10 + dv c) r
    rw [parseUint10, if_pos hc, valFrom_cons]
    obtain ⟨i1, i2⟩ := ih (n * 10 + dv c) h2
    rw [dv_eq] at *
    constructor
    · intro h
      rw [if_neg (by omega), if_neg (by omega)]
      exact i1 h
    · intro h hn
      by_cases g1 : 1844674407370955162 ≤ n
      · rw [if_pos g1]
      · rw [if_neg g1]
        by_cases g2 : 18446744073709551616 ≤ n * 10 + (c.toNat - 48)
        · rw [if_pos g2]
        · rw [if_neg g2]
          exact i2 h (by omega)

/-- of digits: the number, if it fits an int; else none -/
theorem atoi_val (l : List UInt8) (hp : 0 < l.length) (h2 : allDig l = true) : (val l < 9223372036854775808 ∧ atoiAll l = .ok (val l : Int)) ∨ (9223372036854775808 ≤ val l ∧ ∀ v, atoiAll l ≠ .ok v) := by
  cases l with
  | nil => simp at hp
  | cons c r =>
    have hp := parse_val (c :: r) 0 h2
    have hc : 48 ≤ c.toNat ∧ c.toNat ≤ 57 := by
      rw [allDig_cons, Bool.and_eq_true] at h2
      exact isDig_nat c h2.1
    unfold val
    generalize valFrom 0 (c :: r) = n at *
    have e : atoiAll (c :: r) = match parseMag (c :: r) with
      | .ok u => if 9223372036854775808 ≤ u then .range else .ok (u : Int)
      | .range => .range
      | _ => atoiAll [] := by
      unfold atoiAll
      simp only []
      rw [if_neg (by omega)]
      have h45 : ¬ c.toNat = 45 := by omega
      simp only [h45, not_false_eq_true, true_and, false_and, if_false]
      cases parseMag (c :: r) <;> rfl
    have em : parseMag (c :: r) = parseUint10 0 (c :: r) := by unfold parseMag; rw [if_neg (by simp)]
    rw [em] at e
    by_cases g : n < 18446744073709551616
    · rw [hp.1 g] at e
      simp only [] at e
      by_cases g2 : n < 9223372036854775808
      · left; rw [if_neg (by omega)] at e; exact ⟨g2, e⟩
      · right; rw [if_pos (by omega)] at e; exact ⟨by omega, fun v h => by rw [e] at h; cases h⟩
    · right
      rw [hp.2 (by omega) (by omega)] at e
      exact ⟨by omega, fun v h => by rw [e] at h; cases h⟩

set_option maxRecDepth 100000 in
/-- strconv.Atoi: the number and no error, or some number and an error -/
theorem atoi_any (l : List UInt8) (hl : l.length ≤ 1000000000) (w : World) (hE : GE w) :
    Calls Tryz.prog 166 #[.string ⟨l.toArray⟩] w fun e w' => Below w.heap.size w w' ∧
      ((∃ v, atoiAll l = .ok v ∧ e = .returned (.tuple #[.int .i64 v, .nilIface])) ∨ ((∀ v, atoiAll l ≠ .ok v) ∧ ∃ (n : Int) (N : Nat), (-9223372036854775808 ≤ n ∧ n ≤ 9223372036854775807) ∧ e = .returned (.tuple #[.int .i64 n, .iface 155 (.pointer (some ⟨N, 0, none⟩))]))) := by
  obtain ⟨ev, hev, hev2⟩ := hE.er
  obtain ⟨es, hes, hes2⟩ := hE.es
  have hb : (⟨l.toArray⟩ : ByteArray).size ≤ 1000000000 := by rw [bsize]; omega
  cases h : atoiAll l
  · rename_i v
    refine (Tryz.strconv_Atoi_ok ⟨l.toArray⟩ (by omega) v h w).mono ?_
    rintro e w' ⟨rfl, hw⟩
    refine ⟨?_, .inl ⟨v, rfl, rfl⟩⟩
    rcases hw with rfl | ⟨t, rfl⟩
    · exact Below.refl _ _
    · exact Lib.bytesWorld_below _ _ _
  · refine (Any.strconv_Atoi_syntax Tryz.laysC172 ⟨l.toArray⟩ (by omega) h es w hes hes2).mono ?_
    rintro e w' ⟨N, rfl, _, _, hB⟩
    exact ⟨hB, .inr ⟨(fun v g => by cases g), _, N, ⟨by decide, by decide⟩, rfl⟩⟩
  · refine (Any.strconv_Atoi_range Tryz.laysC172 ⟨l.toArray⟩ (by omega) h ev w hev hev2).mono ?_
    rintro e w' ⟨N, rfl, _, _, hB⟩
    exact ⟨hB, .inr ⟨(fun v g => by cases g), _, N, Lib.atoiSat_bounds l, rfl⟩⟩
end Go.Proofs.YtfmelhpegcpbiaaGreatDoor.num
