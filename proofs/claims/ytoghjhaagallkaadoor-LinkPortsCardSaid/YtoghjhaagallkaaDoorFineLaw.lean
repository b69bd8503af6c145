/- The plain law: two fine texts joined are fine. -/
import Derived.Test.YtoghjhaagallkaaDoorFinePure
import Derived.Test.YtoghjhaagallkaaDoorUtfPure
namespace Go.Proofs.YtoghjhaagallkaaDoor.link
open Go.Lib Go.Proofs.YtoghjhaagallkaaDoor.utf

theorem contF_append (t : List UInt8) : ∀ (n code : Nat) (l : List UInt8) (x : Nat), contF n code l = some x → contF n code (l ++ t) = some x
  | 0, _, _, _, h => h
  | _ + 1, _, [], _, h => by cases h
  | m + 1, code, b :: l, x, h => by
    rw [List.cons_append]
    unfold contF at h ⊢
    by_cases g : 128 ≤ b.toNat ∧ b.toNat < 192
    · rw [if_pos g] at h ⊢
      exact contF_append t m _ l x h
    · rw [if_neg g] at h; cases h

theorem sign_append (l t : List UInt8) (h : (signS l).1 ≠ 0) : signS (l ++ t) = signS l := by
  cases l with
  | nil => exact absurd rfl h
  | cons c r =>
    rw [List.cons_append]
    by_cases h1 : c.toNat < 128
    · rw [signS_ascii _ _ h1, signS_ascii _ _ h1]
    · cases hf : headF c.toNat with
      | none => rw [signS_none _ _ h1 hf] at h; exact absurd rfl h
      | some p =>
        obtain ⟨n, low, code⟩ := p
        rw [signS_some _ _ h1 _ _ _ hf] at h
        rw [signS_some _ _ h1 _ _ _ hf, signS_some _ _ h1 _ _ _ hf]
        cases hc : contF n code r with
        | none => rw [hc] at h; exact absurd rfl h
        | some x => rw [contF_append t n code r x hc]

theorem valid_append (n : Nat) : ∀ (l t : List UInt8), l.length ≤ n → validD l = true → validD (l ++ t) = validD t := by
  induction n with
  | zero =>
    intro l t hl _
    have : l = [] := List.length_eq_zero_iff.1 (by omega)
    subst this; rfl
  | succ n ih =>
    intro l t hl hv
    by_cases hne : l = []
    · subst hne; rfl
    · have hs := valid_step l hne
      rw [hv] at hs
      have hle := signS_le l hne
      by_cases h0 : (signS l).1 = 0
      · rw [if_pos h0] at hs; cases hs
      · rw [if_neg h0] at hs
        have hne2 : l ++ t ≠ [] := by simp [hne]
        rw [valid_step (l ++ t) hne2, sign_append l t h0, if_neg h0, List.drop_append_of_le_length hle]
        refine ih _ t ?_ hs.symm
        rw [List.length_drop]; omega

theorem hex2_append (r t : List UInt8) (h : hex2 r = true) : hex2 (r ++ t) = true := by
  match r, h with
  | a :: b :: r, h => exact h

theorem fineB_append (t : List UInt8) (ht : fineB t = true) : ∀ s : List UInt8, fineB s = true → fineB (s ++ t) = true
  | [], _ => ht
  | c :: r, h => by
    rw [List.cons_append]
    by_cases g : c = 37
    · subst g
      rw [fine_pct, Bool.and_eq_true] at h
      rw [fine_pct, hex2_append r t h.1, fineB_append t ht r h.2]; rfl
    · rw [fine_cons c r g, Bool.and_eq_true] at h
      rw [fine_cons c _ g, h.1, fineB_append t ht r h.2]; rfl

theorem fine_join (s t : List UInt8) (hs : fineS s = true) (ht : fineS t = true) : fineS (s ++ t) = true := by
  unfold fineS at *
  rw [Bool.and_eq_true] at *
  exact ⟨by rw [valid_append _ s t (Nat.le_refl _) hs.1]; exact ht.1, fineB_append t ht.2 s hs.2⟩

theorem fine_ex1 : fineS [97, 37, 50, 48, 98] = true := by decide +kernel
theorem fine_ex2 : fineS [97, 32, 98] = false := by decide +kernel
end Go.Proofs.YtoghjhaagallkaaDoor.link
