/- What is shown is read back; what is read is shown; a day and a time: plain. No program in sight. -/
import Derived.Test.YtbaloklcpfjmeaaGreatDoorMomClock
import Derived.Test.YtbaloklcpfjmeaaGreatDoorShowMP
import Derived.Test.YtbaloklcpfjmeaaGreatDoorBackPure
namespace Go.Proofs.YtbaloklcpfjmeaaGreatDoor.mom
open Go.Lib Go.Proofs.YtbaloklcpfjmeaaGreatDoor.num Go.Proofs.YtbaloklcpfjmeaaGreatDoor.cal

theorem all_rep (k : Nat) : allDig (List.replicate k 48) = true := by
  induction k with
  | zero => rfl
  | succ k ih => rw [List.replicate_succ, allDig_cons, ih]; rfl
theorem all_app (a b : List UInt8) (ha : allDig a = true) (hb : allDig b = true) : allDig (a ++ b) = true := by
  unfold allDig at *
  rw [List.all_append, ha, hb]; rfl
theorem pad_dig (n k : Nat) : allDig (padS n k) = true ∧ val (padS n k) = n ∧ k ≤ (padS n k).length := by
  obtain ⟨h1, h2⟩ := dec_dig n
  unfold padS
  refine ⟨all_app _ _ (all_rep _) h1, ?_, ?_⟩
  · rw [val_append, val_zeros, h2]; omega
  · rw [List.length_append, List.length_replicate]; omega
theorem pad_len (n k : Nat) (hk : 1 ≤ k) (h : n < 10 ^ k) : (padS n k).length = k := by
  have := nDigits_bd k n h
  rw [← decDigits_length] at this
  unfold padS
  rw [List.length_append, List.length_replicate]; omega
theorem two_pad (m : Nat) (hm : m < 100) (r : List UInt8) : two (padS m 2 ++ r) = some (m, r) := by
  obtain ⟨h1, h2, _⟩ := pad_dig m 2
  have h3 := pad_len m 2 (by decide) hm
  match hp : padS m 2, h3 with
  | [a, b], _ =>
    rw [hp] at h1 h2
    rw [allDig_cons, allDig_cons, Bool.and_eq_true, Bool.and_eq_true] at h1
    have hv : val [a, b] = dv a * 10 + dv b := by
      unfold val
      rw [valFrom_cons, valFrom_cons]
      show (0 * 10 + dv a) * 10 + dv b = _
      omega
    show two (a :: b :: r) = _
    rw [two_of a b r h1.1 h1.2.1, ← hv, h2]
theorem year_pad (y : Nat) (h1 : 1 ≤ y) (h2 : y ≤ 275760) (r : List UInt8) (hr : cnt r = 0) : yearP (padS y 4 ++ r) = some (y, r) := by
  obtain ⟨a, b, c⟩ := pad_dig y 4
  have := yearP_of (padS y 4) r a hr (by rw [b]; unfold yOk; simp; omega)
  rw [b] at this
  exact this
theorem cnt45 (r : List UInt8) : cnt (45 :: r) = 0 := cnt_cons_no 45 r (by decide)

theorem date_back (d : Int) (h1 : -719162 ≤ d) (h2 : d ≤ 100000109) (hb : 1 ≤ (dateOf d).1 ∧ (dateOf d).1 ≤ 275760) : dateP (ymdS (dateOf d)) = some (d * 86400000, []) := by
  obtain ⟨a, b, c⟩ := date_ok d h1
  obtain ⟨a1, a2, a3, a4⟩ := a
  have hm := mlen_pos (dateOf d).1 (dateOf d).2.1
  unfold ymdS
  have e1 := year_pad (dateOf d).1.toNat (by omega) (by omega) (45 :: (padS (dateOf d).2.1.toNat 2 ++ 45 :: padS (dateOf d).2.2.toNat 2)) (cnt45 _)
  have e2 := two_pad (dateOf d).2.1.toNat (by omega) (45 :: padS (dateOf d).2.2.toNat 2)
  have e3 := two_pad (dateOf d).2.2.toNat (by omega) []
  rw [List.append_nil] at e3
  have ok : dOk (dateOf d).1.toNat (dateOf d).2.1.toNat (dateOf d).2.2.toNat = true := by
    unfold dOk
    rw [Int.toNat_of_nonneg (by omega : 0 ≤ (dateOf d).1), Int.toNat_of_nonneg (by omega : 0 ≤ (dateOf d).2.1), Int.toNat_of_nonneg (by omega : 0 ≤ (dateOf d).2.2)]
    simp only [Bool.and_eq_true, decide_eq_true_eq]
    omega
  rw [dateP_of _ _ _ _ _ _ _ _ _ e1 rfl e2 rfl e3 ok]
  rw [Int.toNat_of_nonneg (by omega : 0 ≤ (dateOf d).1), Int.toNat_of_nonneg (by omega : 0 ≤ (dateOf d).2.1), Int.toNat_of_nonneg (by omega : 0 ≤ (dateOf d).2.2), b]

theorem thou_back (x : Nat) (h0 : 0 < x) (hx : x < 1000) : thou (strip (padS x 3)) = some (x, []) := by
  obtain ⟨h1, h2, _⟩ := pad_dig x 3
  have h3 := pad_len x 3 (by decide) hx
  obtain ⟨k, hk⟩ := strip_pre (padS x 3)
  have hd := strip_dig _ h1
  have hl := strip_le (padS x 3)
  generalize strip (padS x 3) = q at *
  have hlen : q.length + k = 3 := by
    have := congrArg List.length hk
    rw [List.length_append, List.length_replicate, h3] at this; omega
  have hv : val q * 10 ^ k = x := by
    rw [hk, val_append, val_zeros, List.length_replicate] at h2; omega
  have hq : 1 ≤ q.length := by
    apply Nat.pos_of_ne_zero
    intro g
    have : q = [] := List.length_eq_zero_iff.1 g
    rw [this, val_nil] at hv
    omega
  have hc : cnt q = q.length := (cnt_all q).2 hd
  unfold thou
  simp only []
  rw [hc, Nat.min_eq_left (by omega), if_neg (by omega), List.take_length, List.drop_length, show 3 - q.length = k from by omega, hv]

theorem time_back (n : Nat) (hn : n < 86400000) (r : List UInt8) (hr : r = []) : timeP (clockS n ++ r) = some ((n : Int), r) := by
  subst hr
  rw [List.append_nil]
  have h1 : n / 3600000 < 24 := by omega
  have h2 : n / 60000 % 60 < 60 := by omega
  obtain ⟨q, hq⟩ : ∃ q, q = n % 60000 := ⟨_, rfl⟩
  have hqb : q < 60000 := by omega
  have hbase : (n / 3600000 * 60 + n / 60000 % 60) * 60000 + q = n := by omega
  unfold clockS timeP
  rw [two_pad _ (by omega)]
  dsimp only
  rw [sgn_of]
  dsimp only
  rw [two_pad _ (by omega)]
  dsimp only
  rw [if_pos (by simp; omega), ← hq]
  unfold minT partS
  by_cases g0 : q = 0
  · rw [if_pos g0, if_neg (by simp)]
    congr 1
    rw [Prod.mk.injEq]
    exact ⟨by omega, rfl⟩
  · rw [if_neg g0]
    rw [if_pos (show (58 :: (padS (q / 1000) 2 ++ if q % 1000 = 0 then [] else 46 :: strip (padS (q % 1000) 3))).head? = some 58 from rfl)]
    show secP _ (padS (q / 1000) 2 ++ if q % 1000 = 0 then [] else 46 :: strip (padS (q % 1000) 3)) = _
    unfold secP
    rw [two_pad _ (by omega)]
    dsimp only
    rw [if_pos (by omega)]
    unfold secT
    by_cases g1 : q % 1000 = 0
    · rw [if_pos g1, if_neg (by simp)]
      congr 1
      rw [Prod.mk.injEq]
      exact ⟨by omega, rfl⟩
    · rw [if_neg g1, if_pos (show (46 :: strip (padS (q % 1000) 3)).head? = some 46 from rfl)]
      show (match thou (strip (padS (q % 1000) 3)) with | none => none | some (p, r2) => some _) = _
      rw [thou_back (q % 1000) (by omega) (by omega)]
      dsimp only
      congr 1
      rw [Prod.mk.injEq]
      exact ⟨by omega, rfl⟩
end Go.Proofs.YtbaloklcpfjmeaaGreatDoor.mom
