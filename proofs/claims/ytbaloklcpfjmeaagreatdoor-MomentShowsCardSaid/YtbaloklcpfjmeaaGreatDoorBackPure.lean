/- What is shown is read to the number that it was; what is read is shown by a text that is no longer. No program in sight. -/
import Derived.Test.YtbaloklcpfjmeaaGreatDoorParsePure
import Derived.Test.YtbaloklcpfjmeaaGreatDoorShowPure
namespace Go.Proofs.YtbaloklcpfjmeaaGreatDoor.num
open Go.Lib

theorem dig_ofNat (k : Nat) (hk : k < 10) : isDig (UInt8.ofNat (48 + k)) = true ∧ dv (UInt8.ofNat (48 + k)) = k := by
  constructor
  · rw [isDig_iff, UInt8.toNat_ofNat']; omega
  · rw [dv_eq, UInt8.toNat_ofNat']; omega

theorem dec_dig (u : Nat) : allDig (decDigits u) = true ∧ val (decDigits u) = u := by
  induction u using Nat.strongRecOn with
  | _ u ih =>
    by_cases h : u < 10
    · have := dig_ofNat u h
      rw [decDigits_one h, allDig_cons, this.1, val_cons, this.2]
      exact ⟨rfl, by simp [val_nil]⟩
    · have h1 := ih (u / 10) (by omega)
      have h2 := dig_ofNat (u % 10) (by omega)
      rw [decDigits, dif_neg h]
      constructor
      · unfold allDig at *
        rw [List.all_append, h1.1, List.all_cons, h2.1]; rfl
      · rw [val_append, h1.2, val_cons, h2.2, val_nil]; simp; omega

theorem dec_ne (u : Nat) : decDigits u ≠ [] := by
  intro h
  have := congrArg List.length h
  rw [decDigits_length] at this
  have := nDigits_pos u
  simp at *; omega

theorem dig_head (l : List UInt8) (h : allDig l = true) (m : List UInt8) (hne : l ≠ []) : negB (l ++ m) = false ∧ unsigned (l ++ m) = l ++ m := by
  cases l with
  | nil => exact absurd rfl hne
  | cons c r =>
    rw [allDig_cons] at h
    simp at h
    have hc : c ≠ 45 := by rintro rfl; exact absurd h.1 (by decide)
    unfold negB unsigned
    simp [hc]

theorem val_P6 (r : Nat) (h : r < 1000000) : val (P 6 r) = r := by
  have h1 := dec_dig (1000000 + r)
  have h2 := pad6 r h
  have h3 : (decDigits (1000000 + r)).length = 7 := by rw [decDigits_length, nDigits7 r h]
  have h4 := P_dig 6 r h
  have h5 := val_lt _ h4.1
  rw [h4.2] at h5
  cases hd : decDigits (1000000 + r) with
  | nil => rw [hd] at h3; cases h3
  | cons c l =>
    rw [hd] at h1 h2
    rw [List.drop_one, List.tail_cons] at h2
    rw [val_cons, h2, h4.2] at h1
    have := h1.2
    omega

theorem frL_val (r : Nat) (h : r < 1000000) : allDig (frL 6 r) = true ∧ strip (frL 6 r) = frL 6 r ∧ (frL 6 r).length ≤ 6 ∧ val (frL 6 r) * 10 ^ (6 - (frL 6 r).length) = r := by
  have e := strip_P 6 r h (by omega) ⟨r, by simp⟩
  have h4 := P_dig 6 r h
  obtain ⟨k, hk⟩ := strip_pre (P 6 r)
  have hl := frL_len 6 r
  rw [e] at hk
  have hkl : k = 6 - (frL 6 r).length := by
    have := congrArg List.length hk
    rw [h4.2, List.length_append, List.length_replicate] at this
    omega
  refine ⟨by rw [← e]; exact strip_dig _ h4.1, ?_, hl, ?_⟩
  · have hs : ∀ (l : List UInt8) (k : Nat), strip (l ++ List.replicate k 48) = strip l := by
      intro l k
      induction k with
      | zero => simp
      | succ k ih => rw [List.replicate_succ', ← List.append_assoc, strip_snoc, if_pos rfl, ih]
    have := hs (frL 6 r) k
    rw [← hk, e] at this
    exact this.symm
  · have := val_P6 r h
    rw [hk, val_append, val_zeros, List.length_replicate, hkl] at this
    omega

theorem sgn_val (n : Int) (u : Nat) (hu : u = n.natAbs) : (if decide (n < 0) = true then -(u : Int) else (u : Int)) = n := by
  by_cases hn : n < 0
  · rw [if_pos (decide_eq_true hn)]; omega
  · rw [if_neg (by simpa using hn)]; omega

theorem parse_show (n : Int) : parseS (showS n) = if n.natAbs ≤ 1000000000000000000 then (n, 0) else (0, 2) := by
  obtain ⟨u, hu⟩ : ∃ u, u = n.natAbs := ⟨_, rfl⟩
  obtain ⟨neg, hneg⟩ : ∃ b, b = decide (n < 0) := ⟨_, rfl⟩
  have hr : u % 1000000 < 1000000 := Nat.mod_lt _ (by decide)
  have hD := dec_dig (u / 1000000)
  have hDn := dec_ne (u / 1000000)
  have hf := frL_val (u % 1000000) hr
  -- the text without its sign
  obtain ⟨t, ht⟩ : ∃ t, t = if u % 1000000 = 0 then decDigits (u / 1000000) else decDigits (u / 1000000) ++ 46 :: frL 6 (u % 1000000) := ⟨_, rfl⟩
  have hs : showS n = (if n < 0 then [45] else []) ++ t := by
    unfold showS
    rw [← hu, ht]
    by_cases h0 : u % 1000000 = 0
    · simp [h0]
    · simp [h0, frac_eq _ hr]
  have hp : parseS (showS n) = parseT neg t := by
    rw [hs]
    unfold parseS
    by_cases hn : n < 0
    · rw [if_pos hn, hneg, decide_eq_true hn]; rfl
    · rw [if_neg hn, hneg, decide_eq_false hn, List.nil_append]
      have := dig_head (decDigits (u / 1000000)) hD.1 (if u % 1000000 = 0 then [] else 46 :: frL 6 (u % 1000000)) hDn
      have e : t = decDigits (u / 1000000) ++ (if u % 1000000 = 0 then [] else 46 :: frL 6 (u % 1000000)) := by
        rw [ht]; split <;> simp
      rw [← e] at this
      rw [this.1, this.2]
  have hfin : parseT neg t = fin neg (decDigits (u / 1000000)) (if u % 1000000 = 0 then [] else frL 6 (u % 1000000)) := by
    rw [ht]
    by_cases h0 : u % 1000000 = 0
    · rw [if_pos h0, if_pos h0]
      have hc := (cnt_all _).2 hD.1
      have hd : (decDigits (u / 1000000)).drop (cnt (decDigits (u / 1000000))) = [] := List.drop_eq_nil_of_le (by omega)
      rw [parseT_nil neg _ hd, hc, List.take_length, if_neg]
      intro g
      exact hDn (List.eq_nil_of_length_eq_zero g)
    · rw [if_neg h0, if_neg h0]
      have hc : cnt (decDigits (u / 1000000) ++ 46 :: frL 6 (u % 1000000)) = (decDigits (u / 1000000)).length := by
        rw [cnt_append _ _ hD.1]
        have : cnt (46 :: frL 6 (u % 1000000)) = 0 := by unfold cnt; rw [if_neg (by decide)]
        omega
      have hd : (decDigits (u / 1000000) ++ 46 :: frL 6 (u % 1000000)).drop (cnt (decDigits (u / 1000000) ++ 46 :: frL 6 (u % 1000000))) = 46 :: frL 6 (u % 1000000) := by
        rw [hc, List.drop_left]
      rw [parseT_cons neg _ 46 _ hd, hc, List.take_left, if_pos]
      refine ⟨rfl, ?_, hf.1⟩
      intro g
      rcases frL_nil _ _ g with h | h
      · cases h
      · exact h0 h
  rw [hp, hfin]
  unfold fin
  rw [hD.2]
  by_cases h0 : u % 1000000 = 0
  · rw [if_pos h0]
    by_cases hb : u ≤ 1000000000000000000
    · rw [if_pos ⟨by omega, fun g => g.2 rfl, by simp [strip]⟩, if_pos (by omega)]
      have e : u / 1000000 * 1000000 + val (strip []) * 10 ^ (6 - (strip []).length) = u := by
        rw [strip, val_nil, Nat.zero_mul]; omega
      simp only [e]
      rw [hneg, sgn_val n u hu]
    · rw [if_neg (fun g => by have := g.1; omega), if_neg (by omega)]
  · rw [if_neg h0, hf.2.1]
    have hne : frL 6 (u % 1000000) ≠ [] := by
      intro g
      rcases frL_nil _ _ g with h | h
      · cases h
      · exact h0 h
    by_cases hb : u ≤ 1000000000000000000
    · rw [if_pos ⟨by omega, fun g => by have := g.1; omega, hf.2.2.1⟩, if_pos (by omega), hf.2.2.2]
      have e : u / 1000000 * 1000000 + u % 1000000 = u := by omega
      simp only [e]
      rw [hneg, sgn_val n u hu]
    · rw [if_neg, if_neg (by omega)]
      rintro ⟨g1, g2, _⟩
      exact g2 ⟨by omega, hne⟩


/-- how many digits a number has -/
theorem nDigits_bd (k : Nat) : ∀ u, u < 10 ^ k → nDigits u ≤ max 1 k := by
  induction k with
  | zero =>
    intro u h
    have : u = 0 := by omega
    subst this
    rw [nDigits_small (by omega)]; omega
  | succ k ih =>
    intro u h
    by_cases h10 : u < 10
    · rw [nDigits_small h10]; omega
    · rw [nDigits_big h10]
      have h2 := ih (u / 10) (by rw [Nat.pow_succ] at h; omega)
      have hk : 1 ≤ k := by
        apply Nat.lt_of_not_le; intro g
        have : k = 0 := by omega
        subst this
        omega
      omega

theorem frL_short (k : Nat) : ∀ m r, r < 1000000 → k ≤ 6 → (∃ q, r = q * 10 ^ (6 - k)) → (frL m r).length ≤ k := by
  induction k with
  | zero =>
    intro m r hr _ hq
    have := dvd_end r hr hq
    subst this
    cases m with
    | zero => simp [frL]
    | succ m => simp [frL]
  | succ k ih =>
    intro m r hr hk hq
    cases m with
    | zero => simp [frL]
    | succ m =>
      rw [frL]
      split
      · simp
      · have := ih m (r % 100000 * 10) (by omega) (by omega) (dvd_step k r hk hq)
        simp; omega

/-- the number's parts, out of a text that is read -/
theorem fin_ok (neg : Bool) (h p : List UInt8) (v : Int) (hv : fin neg h p = (v, 0)) : val h ≤ 1000000000000 ∧ ¬ (val h = 1000000000000 ∧ strip p ≠ []) ∧ (strip p).length ≤ 6 ∧ v = (if neg then -((val h * 1000000 + val (strip p) * 10 ^ (6 - (strip p).length) : Nat) : Int) else ((val h * 1000000 + val (strip p) * 10 ^ (6 - (strip p).length) : Nat) : Int)) := by
  unfold fin at hv
  by_cases hc : val h ≤ 1000000000000 ∧ ¬ (val h = 1000000000000 ∧ strip p ≠ []) ∧ (strip p).length ≤ 6
  · rw [if_pos hc] at hv
    exact ⟨hc.1, hc.2.1, hc.2.2, ((Prod.mk.inj hv).1).symm⟩
  · rw [if_neg hc] at hv
    have := (Prod.mk.inj hv).2
    cases this

theorem fin_err (neg : Bool) (h p : List UInt8) : (fin neg h p).2 = 0 ∨ fin neg h p = (0, 2) := by
  unfold fin
  split
  · left; rfl
  · right; rfl

theorem parseT_err (neg : Bool) (t : List UInt8) : (parseT neg t).2 = 0 ∨ (parseT neg t).1 = 0 := by
  rw [parse_form]
  split
  · right; rfl
  · rcases fin_err neg (str.cut1 46 t).1 (str.cut1 46 t).2.1 with h | h
    · left; exact h
    · right; rw [h]

theorem show_len (n : Int) (h q : List UInt8) (neg : Bool) (hq : allDig q = true) (hd : allDig h = true) (hl : q.length ≤ 6)
    (hn : n = (if neg then -((val h * 1000000 + val q * 10 ^ (6 - q.length) : Nat) : Int) else ((val h * 1000000 + val q * 10 ^ (6 - q.length) : Nat) : Int))) :
    (showS n).length ≤ (if neg then 1 else 0) + max 1 h.length + (if q = [] then 0 else 1 + q.length) := by
  have hvq := val_lt q hq
  have hr : val q * 10 ^ (6 - q.length) < 1000000 := by
    have h1 : val q * 10 ^ (6 - q.length) < 10 ^ q.length * 10 ^ (6 - q.length) := Nat.mul_lt_mul_of_pos_right hvq (Nat.pow_pos (by decide))
    rw [← Nat.pow_add, show q.length + (6 - q.length) = 6 by omega] at h1
    exact h1
  have hs := frL_short q.length 6 (val q * 10 ^ (6 - q.length)) hr hl ⟨val q, rfl⟩
  generalize hrr : val q * 10 ^ (6 - q.length) = r at *
  have hu : n.natAbs = val h * 1000000 + r := by rw [hn]; split <;> omega
  have h1 : n.natAbs / 1000000 = val h := by omega
  have h2 : n.natAbs % 1000000 = r := by omega
  have hD : (decDigits (val h)).length ≤ max 1 h.length := by
    rw [decDigits_length]; exact nDigits_bd _ _ (val_lt h hd)
  have hneg : (if n < 0 then [45] else ([] : List UInt8)).length ≤ (if neg then 1 else 0) := by
    cases neg with
    | true => rw [if_pos (rfl : true = true)]; split <;> simp
    | false =>
      have h0 : ¬ n < 0 := by rw [hn, if_neg (by decide)]; omega
      rw [if_neg h0]; simp
  unfold showS
  rw [h1, h2]
  by_cases h0 : r = 0
  · rw [if_pos h0, List.length_append]; omega
  · rw [if_neg h0, List.length_append, List.length_append, List.length_cons, frac_eq r hr]
    have : q ≠ [] := by
      rintro rfl
      rw [val_nil, Nat.zero_mul] at hrr
      exact h0 hrr.symm
    rw [if_neg this]; omega

/-- P3.4, the other way: what is read is shown by a text that is read alike, and no longer but for one nought -/
theorem normal (l : List UInt8) (h : (parseS l).2 = 0) : (parseS l).1.natAbs ≤ 1000000000000000000 ∧ (showS (parseS l).1).length ≤ l.length + 1 := by
  obtain ⟨neg, hneg⟩ : ∃ b, b = negB l := ⟨_, rfl⟩
  have hp : parseS l = parseT neg (unsigned l) := by unfold parseS; rw [hneg]
  have hul : (unsigned l).length + (if neg then 1 else 0) ≤ l.length := by
    rw [hneg]
    cases l with
    | nil => simp [unsigned, negB]
    | cons c r =>
      by_cases hc : c = 45
      · subst hc; simp [unsigned, negB]
      · simp [unsigned, negB, hc]
  generalize unsigned l = t at *
  rw [hp] at h ⊢
  rw [parse_form] at h ⊢
  by_cases hb : badB t = true
  · rw [if_pos hb] at h; cases h
  · rw [if_neg hb] at h ⊢
    have hbd := bad_dig t (by simpa using hb)
    have hbf : badB t = false := by simpa using hb
    rcases hf : fin neg (str.cut1 46 t).1 (str.cut1 46 t).2.1 with ⟨v, e⟩
    rw [hf] at h
    simp only at h ⊢
    subst h
    obtain ⟨h1, h2, h3, h4⟩ := fin_ok _ _ _ _ hf
    have hsl := strip_le (str.cut1 46 t).2.1
    have hq := strip_dig _ hbd.2
    have hlen := show_len v _ _ neg hq hbd.1 h3 h4
    have hvq := val_lt _ hq
    have hr : val (strip (str.cut1 46 t).2.1) * 10 ^ (6 - (strip (str.cut1 46 t).2.1).length) < 1000000 := by
      have g1 : val (strip (str.cut1 46 t).2.1) * 10 ^ (6 - (strip (str.cut1 46 t).2.1).length) < 10 ^ (strip (str.cut1 46 t).2.1).length * 10 ^ (6 - (strip (str.cut1 46 t).2.1).length) := Nat.mul_lt_mul_of_pos_right hvq (Nat.pow_pos (by decide))
      rw [← Nat.pow_add, show (strip (str.cut1 46 t).2.1).length + (6 - (strip (str.cut1 46 t).2.1).length) = 6 by omega] at g1
      exact g1
    have hv0 : strip (str.cut1 46 t).2.1 = [] → val (strip (str.cut1 46 t).2.1) * 10 ^ (6 - (strip (str.cut1 46 t).2.1).length) = 0 := by
      intro g; rw [g, val_nil, Nat.zero_mul]
    clear hvq hq hbd hb hbf hf
    generalize val (strip (str.cut1 46 t).2.1) * 10 ^ (6 - (strip (str.cut1 46 t).2.1).length) = r at *
    generalize val (str.cut1 46 t).1 = a at *
    constructor
    · have hva : v.natAbs = a * 1000000 + r := by
        rw [h4]
        cases neg with
        | true => rw [if_pos (rfl : true = true), Int.natAbs_neg]; rfl
        | false => rw [if_neg (by decide)]; rfl
      rw [hva]
      clear h4 hva hlen hul
      by_cases hm : a = 1000000000000
      · have hq0 : strip (str.cut1 46 t).2.1 = [] := by
          apply Classical.byContradiction; intro g; exact h2 ⟨hm, g⟩
        have h0 := hv0 hq0
        rw [hm, h0]
        decide
      · have h5 : a + 1 ≤ 1000000000000 := by clear hr hv0 h3 hsl; omega
        clear h1 h2 hm h3 hsl hv0
        have h6 : (a + 1) * 1000000 ≤ 1000000000000 * 1000000 := Nat.mul_le_mul_right _ h5
        rw [Nat.add_mul] at h6
        exact Nat.le_trans (Nat.add_le_add_left (Nat.le_of_lt hr) _) (by simpa using h6)
    · have hcut : (str.cut1 46 t).1.length + (if (str.cut1 46 t).2.2 = true then 1 + (str.cut1 46 t).2.1.length else 0) ≤ t.length := by
        rcases str.cut1_spec 46 t with ⟨g1, g2, _⟩ | ⟨g1, g2, g3, _⟩
        · rw [g1, if_pos rfl]
          have := congrArg List.length g2
          simp at this; omega
        · rw [g1, g2]; simp
      have hp2 : (str.cut1 46 t).2.2 = false → (str.cut1 46 t).2.1 = [] := by
        intro g
        rcases str.cut1_spec 46 t with ⟨g1, _, _⟩ | ⟨_, _, g3, _⟩
        · rw [g] at g1; cases g1
        · exact g3
      cases hpt : (str.cut1 46 t).2.2 with
      | true =>
        rw [hpt, if_pos rfl] at hcut
        split at hlen <;> split at hlen <;> rename_i g1 g2 <;> simp [g1] at hul <;> omega
      | false =>
        have := hp2 hpt
        rw [hpt] at hcut
        rw [this] at hlen
        simp [strip] at hlen hcut
        split at hlen <;> rename_i g1 <;> simp [g1] at hul <;> omega

end Go.Proofs.YtbaloklcpfjmeaaGreatDoor.num
