/- Plain laws on UTF-8: what the reference's Sign says of the sign at a text's head, and that it is what the library's decoder says. No program in sight. -/
import Derived.Lib.TrimUEq
import Derived.Lib.ValidLaws
import Derived.Lib.MapLaws
namespace Go.Proofs.YtoghjhaagallkaaGreatDoor.utf
open Go.Lib

/-- so many bytes of a sign that follow: the number that they tell -/
def contF : Nat → Nat → List UInt8 → Option Nat
  | 0, code, _ => some code
  | _ + 1, _, [] => none
  | m + 1, code, b :: l => if 128 ≤ b.toNat ∧ b.toNat < 192 then contF m (code * 64 + b.toNat - 128) l else none

/-- a head: how many bytes follow, the least number, the head's part of the number -/
def headF (c : Nat) : Option (Nat × Nat × Nat) :=
  if 194 ≤ c ∧ c < 224 then some (1, 128, c - 192)
  else if 224 ≤ c ∧ c < 240 then some (2, 2048, c - 224)
  else if 240 ≤ c ∧ c < 245 then some (3, 65536, c - 240)
  else none

def endF (n low : Nat) : Option Nat → Nat × Bool
  | none => (0, false)
  | some code => if code < low ∨ 1114111 < code ∨ (55296 ≤ code ∧ code < 57344) then (0, false) else (n + 1, decide (65535 < code))

/-- what Sign says at a text's head -/
def signS : List UInt8 → Nat × Bool
  | [] => (0, false)
  | c :: r => if c.toNat < 128 then (1, false) else match headF c.toNat with
    | none => (0, false)
    | some (n, low, code) => endF n low (contF n code r)

/-- the same by the four bytes' numbers -/
def signN (n b0 b1 b2 b3 : Nat) : Nat × Bool :=
  if b0 < 128 then (1, false)
  else if 194 ≤ b0 ∧ b0 < 224 then (if 1 < n ∧ 128 ≤ b1 ∧ b1 < 192 then (2, false) else (0, false))
  else if 224 ≤ b0 ∧ b0 < 240 then (if (1 < n ∧ 128 ≤ b1 ∧ b1 < 192) ∧ (2 < n ∧ 128 ≤ b2 ∧ b2 < 192) then
      (if ((b0 - 224) * 64 + b1 - 128) * 64 + b2 - 128 < 2048 ∨ 55296 ≤ ((b0 - 224) * 64 + b1 - 128) * 64 + b2 - 128 ∧ ((b0 - 224) * 64 + b1 - 128) * 64 + b2 - 128 < 57344 then (0, false) else (3, false)) else (0, false))
  else if 240 ≤ b0 ∧ b0 < 245 then (if (1 < n ∧ 128 ≤ b1 ∧ b1 < 192) ∧ (2 < n ∧ 128 ≤ b2 ∧ b2 < 192) ∧ (3 < n ∧ 128 ≤ b3 ∧ b3 < 192) then
      (if (((b0 - 240) * 64 + b1 - 128) * 64 + b2 - 128) * 64 + b3 - 128 < 65536 ∨ 1114111 < (((b0 - 240) * 64 + b1 - 128) * 64 + b2 - 128) * 64 + b3 - 128 then (0, false) else (4, true)) else (0, false))
  else (0, false)

theorem signS_ascii (c : UInt8) (r : List UInt8) (h : c.toNat < 128) : signS (c :: r) = (1, false) := by simp only [signS, if_pos h]
theorem signS_none (c : UInt8) (r : List UInt8) (h : ¬ c.toNat < 128) (hf : headF c.toNat = none) : signS (c :: r) = (0, false) := by simp only [signS, if_neg h, hf]
theorem signS_some (c : UInt8) (r : List UInt8) (h : ¬ c.toNat < 128) (n low code : Nat) (hf : headF c.toNat = some (n, low, code)) : signS (c :: r) = endF n low (contF n code r) := by simp only [signS, if_neg h, hf]
theorem contF_nil (m code : Nat) : contF (m + 1) code [] = none := rfl
theorem contF_no (m code : Nat) (b : UInt8) (l : List UInt8) (h : ¬ (128 ≤ b.toNat ∧ b.toNat < 192)) : contF (m + 1) code (b :: l) = none := by rw [contF, if_neg h]
theorem contF_yes (m code : Nat) (b : UInt8) (l : List UInt8) (h : 128 ≤ b.toNat ∧ b.toNat < 192) : contF (m + 1) code (b :: l) = contF m (code * 64 + b.toNat - 128) l := by rw [contF, if_pos h]
theorem endF_none (n low : Nat) : endF n low none = (0, false) := rfl
theorem endF_bad (n low code : Nat) (h : code < low ∨ 1114111 < code ∨ (55296 ≤ code ∧ code < 57344)) : endF n low (some code) = (0, false) := by rw [endF, if_pos h]
theorem endF_ok (n low code : Nat) (h : ¬ (code < low ∨ 1114111 < code ∨ (55296 ≤ code ∧ code < 57344))) : endF n low (some code) = (n + 1, decide (65535 < code)) := by rw [endF, if_neg h]

theorem div64 (b : Nat) (h : b < 256) : b / 64 = 2 ↔ 128 ≤ b ∧ b < 192 := by omega

/-- what is told of a decoder's answer -/
def told (d : Nat × Nat) : Nat × Bool := if d.1 = 65533 ∧ d.2 = 1 then (0, false) else (d.2, decide (65535 < d.1))
theorem told_bad : told (65533, 1) = (0, false) := rfl
theorem told_two (c : Nat) (h : c ≤ 65535) : told (c, 2) = (2, false) := by
  unfold told; rw [if_neg (fun g => by have := g.2; omega), decide_eq_false (by simp; omega)]
theorem told_three (c : Nat) (h : c ≤ 65535) : told (c, 3) = (3, false) := by
  unfold told; rw [if_neg (fun g => by have := g.2; omega), decide_eq_false (by simp; omega)]
theorem told_four (c : Nat) (h : 65535 < c) : told (c, 4) = (4, true) := by
  unfold told; rw [if_neg (fun g => by have := g.2; omega), decide_eq_true (by simp; omega)]
theorem told_one (c : Nat) (h : c < 128) : told (c, 1) = (1, false) := by
  unfold told; rw [if_neg (fun g => by have := g.1; simp at this; omega), decide_eq_false (by simp; omega)]

theorem signN_decode (n b0 b1 b2 b3 : Nat) (h0 : b0 < 256) (h1 : b1 < 256) (h2 : b2 < 256) (h3 : b3 < 256) : signN n b0 b1 b2 b3 = told (decodeN n b0 b1 b2 b3) := by
  unfold signN decodeN
  simp only [div64 b1 h1, div64 b2 h2, div64 b3 h3]
  by_cases c0 : b0 < 128
  · rw [if_pos c0, if_pos c0, told_one _ c0]
  rw [if_neg c0, if_neg c0]
  by_cases c1 : 194 ≤ b0 ∧ b0 < 224
  · rw [if_pos c1]
    by_cases d1 : (1 < n ∧ 128 ≤ b1 ∧ b1 < 192)
    · rw [if_pos d1, if_pos (show b0 / 32 = 6 ∧ (1 < n ∧ 128 ≤ b1 ∧ b1 < 192) from ⟨by omega, d1⟩), if_pos (show b0 % 32 * 64 + b1 % 64 ≥ 128 by omega), told_two _ (by omega)]
    · rw [if_neg d1, if_neg (show ¬ (b0 / 32 = 6 ∧ (1 < n ∧ 128 ≤ b1 ∧ b1 < 192)) from fun g => d1 g.2), if_neg (show ¬ (b0 / 16 = 14 ∧ (1 < n ∧ 128 ≤ b1 ∧ b1 < 192) ∧ (2 < n ∧ 128 ≤ b2 ∧ b2 < 192)) from fun g => by have := g.1; omega), if_neg (show ¬ (b0 / 8 = 30 ∧ (1 < n ∧ 128 ≤ b1 ∧ b1 < 192) ∧ (2 < n ∧ 128 ≤ b2 ∧ b2 < 192) ∧ (3 < n ∧ 128 ≤ b3 ∧ b3 < 192)) from fun g => by have := g.1; omega), told_bad]
  rw [if_neg c1]
  by_cases c2 : 224 ≤ b0 ∧ b0 < 240
  · rw [if_pos c2, if_neg (show ¬ (b0 / 32 = 6 ∧ (1 < n ∧ 128 ≤ b1 ∧ b1 < 192)) from fun g => by have := g.1; omega)]
    by_cases d2 : (1 < n ∧ 128 ≤ b1 ∧ b1 < 192) ∧ (2 < n ∧ 128 ≤ b2 ∧ b2 < 192)
    · rw [if_pos d2, if_pos (show b0 / 16 = 14 ∧ (1 < n ∧ 128 ≤ b1 ∧ b1 < 192) ∧ (2 < n ∧ 128 ≤ b2 ∧ b2 < 192) from ⟨by omega, d2⟩)]
      have e : b0 % 16 * 4096 + b1 % 64 * 64 + b2 % 64 = ((b0 - 224) * 64 + b1 - 128) * 64 + b2 - 128 := by omega
      rw [e]
      generalize hx : ((b0 - 224) * 64 + b1 - 128) * 64 + b2 - 128 = x
      have hxl : x ≤ 65535 := by omega
      clear e hx
      by_cases g : x < 2048 ∨ 55296 ≤ x ∧ x < 57344
      · rw [if_pos g, if_neg (show ¬ (x ≥ 2048 ∧ (x < 55296 ∨ (57344 ≤ x ∧ x ≤ 1114111))) by omega), told_bad]
      · rw [if_neg g, if_pos (show x ≥ 2048 ∧ (x < 55296 ∨ (57344 ≤ x ∧ x ≤ 1114111)) by omega), told_three _ hxl]
    · rw [if_neg d2, if_neg (show ¬ (b0 / 16 = 14 ∧ (1 < n ∧ 128 ≤ b1 ∧ b1 < 192) ∧ (2 < n ∧ 128 ≤ b2 ∧ b2 < 192)) from fun g => d2 g.2), if_neg (show ¬ (b0 / 8 = 30 ∧ (1 < n ∧ 128 ≤ b1 ∧ b1 < 192) ∧ (2 < n ∧ 128 ≤ b2 ∧ b2 < 192) ∧ (3 < n ∧ 128 ≤ b3 ∧ b3 < 192)) from fun g => by have := g.1; omega), told_bad]
  rw [if_neg c2]
  by_cases c3 : 240 ≤ b0 ∧ b0 < 245
  · rw [if_pos c3, if_neg (show ¬ (b0 / 32 = 6 ∧ (1 < n ∧ 128 ≤ b1 ∧ b1 < 192)) from fun g => by have := g.1; omega), if_neg (show ¬ (b0 / 16 = 14 ∧ (1 < n ∧ 128 ≤ b1 ∧ b1 < 192) ∧ (2 < n ∧ 128 ≤ b2 ∧ b2 < 192)) from fun g => by have := g.1; omega)]
    by_cases d3 : (1 < n ∧ 128 ≤ b1 ∧ b1 < 192) ∧ (2 < n ∧ 128 ≤ b2 ∧ b2 < 192) ∧ (3 < n ∧ 128 ≤ b3 ∧ b3 < 192)
    · rw [if_pos d3, if_pos (show b0 / 8 = 30 ∧ (1 < n ∧ 128 ≤ b1 ∧ b1 < 192) ∧ (2 < n ∧ 128 ≤ b2 ∧ b2 < 192) ∧ (3 < n ∧ 128 ≤ b3 ∧ b3 < 192) from ⟨by omega, d3⟩)]
      have e : b0 % 8 * 262144 + b1 % 64 * 4096 + b2 % 64 * 64 + b3 % 64 = (((b0 - 240) * 64 + b1 - 128) * 64 + b2 - 128) * 64 + b3 - 128 := by omega
      rw [e]
      generalize (((b0 - 240) * 64 + b1 - 128) * 64 + b2 - 128) * 64 + b3 - 128 = x
      clear e
      by_cases g : x < 65536 ∨ 1114111 < x
      · rw [if_pos g, if_neg (show ¬ (x ≥ 65536 ∧ (x < 55296 ∨ (57344 ≤ x ∧ x ≤ 1114111))) by omega), told_bad]
      · rw [if_neg g, if_pos (show x ≥ 65536 ∧ (x < 55296 ∨ (57344 ≤ x ∧ x ≤ 1114111)) by omega), told_four _ (by omega)]
    · rw [if_neg d3, if_neg (show ¬ (b0 / 8 = 30 ∧ (1 < n ∧ 128 ≤ b1 ∧ b1 < 192) ∧ (2 < n ∧ 128 ≤ b2 ∧ b2 < 192) ∧ (3 < n ∧ 128 ≤ b3 ∧ b3 < 192)) from fun g => d3 g.2), told_bad]
  rw [if_neg c3]
  by_cases c4 : b0 / 32 = 6 ∧ (1 < n ∧ 128 ≤ b1 ∧ b1 < 192)
  · rw [if_pos c4, if_neg (show ¬ (b0 % 32 * 64 + b1 % 64 ≥ 128) by omega), told_bad]
  rw [if_neg c4, if_neg (show ¬ (b0 / 16 = 14 ∧ (1 < n ∧ 128 ≤ b1 ∧ b1 < 192) ∧ (2 < n ∧ 128 ≤ b2 ∧ b2 < 192)) from fun g => by have := g.1; omega)]
  by_cases c5 : b0 / 8 = 30 ∧ (1 < n ∧ 128 ≤ b1 ∧ b1 < 192) ∧ (2 < n ∧ 128 ≤ b2 ∧ b2 < 192) ∧ (3 < n ∧ 128 ≤ b3 ∧ b3 < 192)
  · rw [if_pos c5]
    have hx : 1114111 < b0 % 8 * 262144 + b1 % 64 * 4096 + b2 % 64 * 64 + b3 % 64 := by omega
    generalize b0 % 8 * 262144 + b1 % 64 * 4096 + b2 % 64 * 64 + b3 % 64 = x at hx
    rw [if_neg (show ¬ (x ≥ 65536 ∧ (x < 55296 ∨ (57344 ≤ x ∧ x ≤ 1114111))) by omega), told_bad]
  · rw [if_neg c5, told_bad]

theorem signS_N (l : List UInt8) (hne : l ≠ []) : signS l = signN l.length (l.getD 0 0).toNat (l.getD 1 0).toNat (l.getD 2 0).toNat (l.getD 3 0).toNat := by
  cases l with
  | nil => exact absurd rfl hne
  | cons c r =>
    have hc := c.toNat_lt
    unfold signS signN headF
    simp only [List.getD_cons_zero, List.getD_cons_succ, List.length_cons]
    by_cases c0 : c.toNat < 128
    · rw [if_pos c0, if_pos c0]
    rw [if_neg c0, if_neg c0]
    by_cases c1 : 194 ≤ c.toNat ∧ c.toNat < 224
    · rw [if_pos c1, if_pos c1]
      rcases r with _ | ⟨b1, r⟩
      · simp [contF, endF]
      · have h1 := b1.toNat_lt
        simp only [contF, List.getD_cons_zero, List.length_cons]
        by_cases d1 : 128 ≤ b1.toNat ∧ b1.toNat < 192
        · rw [if_pos d1, if_pos ⟨by omega, d1⟩]
          simp only [endF]
          rw [if_neg (by omega), decide_eq_false (by omega)]
        · rw [if_neg d1, if_neg (fun g => d1 g.2)]; rfl
    rw [if_neg c1, if_neg c1]
    by_cases c2 : 224 ≤ c.toNat ∧ c.toNat < 240
    · rw [if_pos c2, if_pos c2]
      rcases r with _ | ⟨b1, r⟩
      · simp [contF, endF]
      · have h1 := b1.toNat_lt
        simp only [contF, List.getD_cons_zero, List.getD_cons_succ, List.length_cons]
        by_cases d1 : 128 ≤ b1.toNat ∧ b1.toNat < 192
        · rw [if_pos d1]
          rcases r with _ | ⟨b2, r⟩
          · simp [contF, endF]
          · have h2 := b2.toNat_lt
            simp only [contF, List.getD_cons_zero, List.length_cons]
            by_cases d2 : 128 ≤ b2.toNat ∧ b2.toNat < 192
            · rw [if_pos d2, if_pos ⟨⟨by omega, d1⟩, by omega, d2⟩]
              simp only [endF]
              generalize hx : ((c.toNat - 224) * 64 + b1.toNat - 128) * 64 + b2.toNat - 128 = x
              have hxl : x ≤ 65535 := by omega
              clear hx
              by_cases g : x < 2048 ∨ 55296 ≤ x ∧ x < 57344
              · rw [if_pos g, if_pos (by omega)]
              · rw [if_neg g, if_neg (by omega), decide_eq_false (by omega)]
            · rw [if_neg d2, if_neg (fun g => d2 g.2.2)]; rfl
        · rw [if_neg d1, if_neg (fun g => d1 g.1.2)]; rfl
    rw [if_neg c2, if_neg c2]
    by_cases c3 : 240 ≤ c.toNat ∧ c.toNat < 245
    · rw [if_pos c3, if_pos c3]
      rcases r with _ | ⟨b1, r⟩
      · simp [contF, endF]
      · have h1 := b1.toNat_lt
        simp only [contF, List.getD_cons_zero, List.getD_cons_succ, List.length_cons]
        by_cases d1 : 128 ≤ b1.toNat ∧ b1.toNat < 192
        · rw [if_pos d1]
          rcases r with _ | ⟨b2, r⟩
          · simp [contF, endF]
          · have h2 := b2.toNat_lt
            simp only [contF, List.getD_cons_zero, List.getD_cons_succ, List.length_cons]
            by_cases d2 : 128 ≤ b2.toNat ∧ b2.toNat < 192
            · rw [if_pos d2]
              rcases r with _ | ⟨b3, r⟩
              · simp [contF, endF]
              · have h3 := b3.toNat_lt
                simp only [contF, List.getD_cons_zero, List.length_cons]
                by_cases d3 : 128 ≤ b3.toNat ∧ b3.toNat < 192
                · rw [if_pos d3, if_pos ⟨⟨by omega, d1⟩, ⟨by omega, d2⟩, by omega, d3⟩]
                  simp only [endF]
                  generalize (((c.toNat - 240) * 64 + b1.toNat - 128) * 64 + b2.toNat - 128) * 64 + b3.toNat - 128 = x
                  by_cases g : x < 65536 ∨ 1114111 < x
                  · rw [if_pos g, if_pos (by omega)]
                  · rw [if_neg g, if_neg (by omega), decide_eq_true (by omega)]
                · rw [if_neg d3, if_neg (fun g => d3 g.2.2.2)]; rfl
            · rw [if_neg d2, if_neg (fun g => d2 g.2.1.2)]; rfl
        · rw [if_neg d1, if_neg (fun g => d1 g.1.2)]; rfl
    · rw [if_neg c3, if_neg c3]

theorem signS_decode (l : List UInt8) (hne : l ≠ []) : signS l = told (decodeL l) := by
  rw [signS_N l hne, decodeL_N]
  exact signN_decode _ _ _ _ _ (UInt8.toNat_lt _) (UInt8.toNat_lt _) (UInt8.toNat_lt _) (UInt8.toNat_lt _)

theorem valid_step (l : List UInt8) (hne : l ≠ []) : validD l = if (signS l).1 = 0 then false else validD (l.drop (signS l).1) := by
  rw [validD_step l hne, signS_decode l hne]
  unfold told
  by_cases h : (decodeL l).1 = 65533 ∧ (decodeL l).2 = 1
  · rw [if_pos h, if_pos h]; rfl
  · rw [if_neg h, if_neg h, if_neg]
    have := decodeL_width l
    omega

theorem signS_le (l : List UInt8) (hne : l ≠ []) : (signS l).1 ≤ l.length := by
  rw [signS_decode l hne]
  unfold told
  split
  · simp
  · exact decodeL_le l hne
end Go.Proofs.YtoghjhaagallkaaGreatDoor.utf
