/- Bounds and steps: what they keep: plain. No program in sight. -/
import Derived.Test.YtfmelhpegcpbiaaGreatDoorMa
import Derived.Test.YtfmelhpegcpbiaaGreatDoorZMomBounds
import Derived.Test.YtfmelhpegcpbiaaGreatDoorZParseBd
namespace Go.Proofs.YtfmelhpegcpbiaaGreatDoor.stp
open Go.Lib Go.Proofs.YtfmelhpegcpbiaaGreatDoor.num Go.Proofs.YtfmelhpegcpbiaaGreatDoor.mom Go.Proofs.YtfmelhpegcpbiaaGreatDoor.cal Go.Proofs.YtfmelhpegcpbiaaGreatDoor.days Go.Proofs.YtfmelhpegcpbiaaGreatDoor.link Go.Proofs.YtfmelhpegcpbiaaGreatDoor.fits Go.Proofs.YtfmelhpegcpbiaaGreatDoor.atr

def i64 (n : Int) : Prop := -9223372036854775808 ≤ n ∧ n ≤ 9223372036854775807
theorem valK_64 (kind : Int) (s : List UInt8) : i64 (valK kind s).1 := by
  unfold valK i64
  split
  · have := parse_bd s; dsimp only; omega
  · split
    · have := parse64 (kind - 7) s
      unfold int64 at this
      exact this
    · dsimp only; omega
theorem valK_no (kind : Int) (s : List UInt8) (h : (valK kind s).2 = false) : (valK kind s).1 = 0 := by
  unfold valK at h ⊢
  split
  · rename_i g
    rw [if_pos g] at h
    dsimp only at h ⊢
    rcases parseT_err (negB s) (unsigned s) with k | k
    · have : (parseS s).2 = 0 := k
      rw [this] at h; cases h
    · exact k
  · rename_i g
    rw [if_neg g] at h
    split
    · rename_i k
      rw [if_pos k] at h
      dsimp only at h ⊢
      rcases parse_cases (kind - 7) s with ⟨_, q⟩ | ⟨_, _, q, _⟩
      · exact q
      · rw [q] at h; cases h
    · rfl
theorem showK_back (kind n : Int) (h : (showK kind n).2 = true) : valK kind (showK kind n).1 = (n, true) := by
  unfold showK at h ⊢
  unfold valK
  split
  · rename_i g
    rw [if_pos g] at h
    split at h
    · cases h
    · rename_i k
      rw [if_neg k]
      dsimp only
      rw [parse_show, if_pos (by omega)]
      rfl
  · rename_i g
    rw [if_neg g] at h
    split at h
    · rename_i k
      simp only [if_pos k]
      dsimp only at h ⊢
      rcases back (kind - 7) n with ⟨_, q⟩ | ⟨q, _⟩
      · rw [q]; rfl
      · exact absurd (by simpa using h) q
    · cases h
theorem showS_len (n : Int) (hn : i64 n) : (showS n).length ≤ 1000 := by
  obtain ⟨h1, h2⟩ := hn
  have hd : nDigits (n.natAbs / 1000000) ≤ 20 := by
    have := nDigits_bd 20 (n.natAbs / 1000000) (by omega)
    omega
  rw [← decDigits_length] at hd
  have hf := (frL_val (n.natAbs % 1000000) (by omega)).2.2.1
  rw [← frac_eq _ (by omega)] at hf
  unfold showS
  dsimp only
  split <;> split <;> simp only [List.length_append, List.length_cons, List.length_nil] <;> omega
theorem showK_len (kind n : Int) (hn : i64 n) : (showK kind n).1.length ≤ 1000 := by
  unfold showK
  split
  · split
    · simp
    · exact showS_len n hn
  · split
    · exact showM_len _ _
    · simp
theorem boundK_64 (kind : Int) (l : List Attr) (nm : List UInt8) : i64 (boundK kind l nm).1 := by
  unfold boundK
  split
  · exact ⟨by decide, by decide⟩
  · exact valK_64 _ _
theorem boundK_no (kind : Int) (l : List Attr) (nm : List UInt8) (h : (boundK kind l nm).2 = false) : (boundK kind l nm).1 = 0 := by
  unfold boundK at h ⊢
  split
  · rfl
  · rename_i s e
    rw [e] at h
    exact valK_no _ _ h
theorem leastK_64 (kind : Int) (l : List Attr) : i64 (leastK kind l).1 := boundK_64 kind l nMin
theorem mostK_64 (kind : Int) (l : List Attr) : i64 (mostK kind l).1 := by
  unfold mostK
  split
  · exact boundK_64 kind l nMax
  · have := leastK_64 kind l
    unfold i64 at *
    dsimp only
    omega
theorem baseK_64 (kind : Int) (l : List Attr) : i64 (baseK kind l) := by
  unfold baseK
  split
  · exact boundK_64 kind l nMin
  · split
    · exact boundK_64 kind l nValue
    · split <;> exact ⟨by decide, by decide⟩
theorem scaleK_pos (kind : Int) : 0 < scaleK kind ∧ scaleK kind ≤ 604800000 := by
  unfold scaleK
  split
  · omega
  · split
    · omega
    · split
      · omega
      · split <;> omega
theorem byK_pos (kind : Int) : 0 < byK kind ∧ byK kind ≤ 604800000 := by
  have := scaleK_pos kind
  unfold byK
  split <;> omega
theorem stepQ_pos (b s n : Int) (hb : 0 < b ∧ b ≤ 604800000) (hs : 0 < s) (hn : 0 < n) : 0 < stepQ b s n ∧ stepQ b s n ≤ 1000000000000000000 := by
  unfold stepQ
  have h : 0 ≤ n * s / 1000000 := Int.ediv_nonneg (Int.mul_nonneg (by omega) (by omega)) (by decide)
  generalize n * s / 1000000 = q at *
  split <;> omega
theorem stepK_pos (kind : Int) (l : List Attr) (h : (stepK kind l).2 = true) : 0 < (stepK kind l).1 ∧ (stepK kind l).1 ≤ 1000000000000000000 := by
  have hb := byK_pos kind
  have hs := scaleK_pos kind
  unfold stepK at h ⊢
  split
  · rename_i g; rw [if_pos g] at h; cases h
  · rename_i g
    rw [if_neg g] at h
    split
    · dsimp only; omega
    · rename_i s e
      rw [e] at h
      dsimp only at h
      split
      · rename_i k; rw [if_pos k] at h; cases h
      · split
        · dsimp only; omega
        · exact stepQ_pos _ _ _ hb hs.1 (by omega)
theorem stepK_64 (kind : Int) (l : List Attr) : i64 (stepK kind l).1 := by
  cases h : (stepK kind l).2
  · have : (stepK kind l).1 = 0 := by
      unfold stepK at h ⊢
      split
      · rfl
      · rename_i g
        rw [if_neg g] at h
        split
        · rename_i e; rw [e] at h; cases h
        · rename_i s e
          rw [e] at h
          dsimp only at h
          split
          · rfl
          · rename_i k
            rw [if_neg k] at h
            split at h <;> cases h
    rw [this]; exact ⟨by decide, by decide⟩
  · have := stepK_pos kind l h
    unfold i64; omega

/-- the lower bound of a range, as the reference says it -/
theorem leastK_ref (kind : Int) (l : List Attr) : leastK kind l = if (boundK kind l nMin).2 = false ∧ kind = 14 then (0, true) else boundK kind l nMin := by
  unfold leastK
  by_cases h : (boundK kind l nMin).2 = false
  · by_cases k : kind = 14
    · rw [if_pos ⟨h, k⟩, boundK_no _ _ _ h, h]
      simp [k]
    · rw [if_neg (fun g => k g.2), h]
      have : (kind == 14) = false := by simpa using k
      rw [this]
      exact Prod.ext rfl h.symm
  · rw [if_neg (fun g => h g.1)]
    have h : (boundK kind l nMin).2 = true := by simpa using h
    rw [h]
    exact Prod.ext rfl h.symm
theorem fits_self (n s : Int) (h : 0 < s) : fitsB n n s = true := by
  unfold fitsB
  rw [decide_eq_true h]
  simp
end Go.Proofs.YtfmelhpegcpbiaaGreatDoor.stp
