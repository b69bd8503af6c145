/- A part of the proofs: lemmas and contracts. -/
import Derived.Deep.SlicePairs
import Derived.OpenShut
import Derived.Test.YtkhlfggnjcbniaaGreatDoorP2
set_option maxHeartbeats 12800000
set_option maxRecDepth 1000000
namespace Go.Proofs.YtkhlfggnjcbniaaGreatDoor.str
open Go.Lib

def cut1 (c : UInt8) : List UInt8 → List UInt8 × List UInt8 × Bool
 | [] => ([], [], false)
 | b :: l => if b = c then ([], l, true) else (b :: (cut1 c l).1, (cut1 c l).2.1, (cut1 c l).2.2)

theorem cut_one (c : UInt8) (t : List UInt8) : Lib.cut t [c] = cut1 c t := by
 unfold Lib.cut
 rw [index_one]
 induction t with
 | nil => simp [indexByte, cut1]
 | cons b l ih =>
  by_cases h : b = c
  ·subst h; simp [indexByte, cut1]
  ·have hb : (b == c) = false := by simpa using h
   have hge := indexByte_ge l c
   rw [cut1, if_neg h, ← ih]
   by_cases hn : indexByte l c = -1
   ·have e : indexByte (b :: l) c = -1 := by rw [indexByte, hb, hn]; rfl
    rw [e, hn]; rfl
   ·obtain ⟨k, hk⟩ : ∃ k : Nat, indexByte l c = k := ⟨(indexByte l c).toNat, by omega⟩
    have e : indexByte (b :: l) c = ((k + 1 : Nat) : Int) := by
     have h2 : (indexByte l c == -1) = false := by simpa using hn
     rw [indexByte, hb, h2, hk]; simp
    rw [e, hk, if_pos (by omega), if_pos (by omega)]
    simp

theorem cut1_spec (c : UInt8) (t : List UInt8) : ((cut1 c t).2.2 = true ∧ t = (cut1 c t).1 ++ c :: (cut1 c t).2.1 ∧ c ∉ (cut1 c t).1) ∨ ((cut1 c t).2.2 = false ∧ (cut1 c t).1 = t ∧ (cut1 c t).2.1 = [] ∧ c ∉ t) := by
 induction t with
 | nil => right; simp [cut1]
 | cons b l ih =>
  unfold cut1
  by_cases h : b = c
  ·subst h; left; simp
  ·rw [if_neg h]
   rcases ih with ⟨h1, h2, h3⟩ | ⟨h1, h2, h3, h4⟩
   ·left
    refine ⟨h1, ?_, ?_⟩
    ·show b :: l = (b :: (cut1 c l).1) ++ c :: (cut1 c l).2.1
     rw [List.cons_append, ← h2]
    ·simp only [List.mem_cons, not_or]
     exact ⟨fun e => h e.symm, h3⟩
   ·right
    refine ⟨h1, ?_, h3, ?_⟩
    ·show b :: (cut1 c l).1 = b :: l
     rw [h2]
    ·simp only [List.mem_cons, not_or]
     exact ⟨fun e => h e.symm, h4⟩

theorem cut1_le (c : UInt8) (t : List UInt8) : (cut1 c t).1.length ≤ t.length ∧ (cut1 c t).2.1.length ≤ t.length := by
 rcases cut1_spec c t with ⟨_, h, _⟩ | ⟨_, h1, h2, _⟩
 ·have := congrArg List.length h
  simp at this; omega
 ·rw [h1, h2]; simp

end Go.Proofs.YtkhlfggnjcbniaaGreatDoor.str
namespace Go.Proofs.YtkhlfggnjcbniaaGreatDoor.utf
open Go.Lib

def contF : Nat → Nat → List UInt8 → Option Nat
 | 0, code, _ => some code
 | _ + 1, _, [] => none
 | m + 1, code, b :: l => if 128 ≤ b.toNat ∧ b.toNat < 192 then contF m (code * 64 + b.toNat - 128) l else none

def headF (c : Nat) : Option (Nat × Nat × Nat) :=
 if 194 ≤ c ∧ c < 224 then some (1, 128, c - 192)
 else if 224 ≤ c ∧ c < 240 then some (2, 2048, c - 224)
 else if 240 ≤ c ∧ c < 245 then some (3, 65536, c - 240)
 else none

def endF (n low : Nat) : Option Nat → Nat × Bool
 | none => (0, false)
 | some code => if code < low ∨ 1114111 < code ∨ (55296 ≤ code ∧ code < 57344) then (0, false) else (n + 1, decide (65535 < code))

def signS : List UInt8 → Nat × Bool
 | [] => (0, false)
 | c :: r => if c.toNat < 128 then (1, false) else match headF c.toNat with
  | none => (0, false)
  | some (n, low, code) => endF n low (contF n code r)

def signN (n b0 b1 b2 b3 : Nat) : Nat × Bool :=
 if b0 < 128 then (1, false)
 else if 194 ≤ b0 ∧ b0 < 224 then (if 1 < n ∧ 128 ≤ b1 ∧ b1 < 192 then (2, false) else (0, false))
 else if 224 ≤ b0 ∧ b0 < 240 then (if (1 < n ∧ 128 ≤ b1 ∧ b1 < 192) ∧ (2 < n ∧ 128 ≤ b2 ∧ b2 < 192) then
   (if ((b0 - 224) * 64 + b1 - 128) * 64 + b2 - 128 < 2048 ∨ 55296 ≤ ((b0 - 224) * 64 + b1 - 128) * 64 + b2 - 128 ∧ ((b0 - 224) * 64 + b1 - 128) * 64 + b2 - 128 < 57344 then (0, false) else (3, false)) else (0, false))
 else if 240 ≤ b0 ∧ b0 < 245 then (if (1 < n ∧ 128 ≤ b1 ∧ b1 < 192) ∧ (2 < n ∧ 128 ≤ b2 ∧ b2 < 192) ∧ (3 < n ∧ 128 ≤ b3 ∧ b3 < 192) then
   (if (((b0 - 240) * 64 + b1 - 128) * 64 + b2 - 128) * 64 + b3 - 128 < 65536 ∨ 1114111 < (((b0 - 240) * 64 + b1 - 128) * 64 + b2 - 128) * 64 + b3 - 128 then (0, false) else (4, true)) else (0, false))
 else (0, false)

theorem signS_ascii (c : UInt8) (r : List UInt8) (h : c.toNat < 128) : signS (c :: r) = (1, false) := by simp only [signS, if_pos h]
theorem signS_none (c : UInt8) (r : List UInt8) (h : ¬ c.toNat < 128) (hf : headF c.toNat = none) : signS (c :: r) = (0, false) := by simp only [signS, if_neg h, hf]
theorem signS_some (c : UInt8) (r : List UInt8) (h : ¬ c.toNat < 128) (n low code : Nat) (hf : headF c.toNat = some (n, low, code)) : signS (c :: r) = endF n low (contF n code r) := by simp only [signS, if_neg h, hf]
theorem contF_nil (m code : Nat) : contF (m + 1) code [] = none := rfl
theorem contF_no (m code : Nat) (b : UInt8) (l : List UInt8) (h : ¬ (128 ≤ b.toNat ∧ b.toNat < 192)) : contF (m + 1) code (b :: l) = none := by rw [contF, if_neg h]
theorem contF_yes (m code : Nat) (b : UInt8) (l : List UInt8) (h : 128 ≤ b.toNat ∧ b.toNat < 192) : contF (m + 1) code (b :: l) = contF m (code * 64 + b.toNat - 128) l := by rw [contF, if_pos h]
theorem endF_none (n low : Nat) : endF n low none = (0, false) := rfl
theorem endF_bad (n low code : Nat) (h : code < low ∨ 1114111 < code ∨ (55296 ≤ code ∧ code < 57344)) : endF n low (some code) = (0, false) := by rw [endF, if_pos h]
theorem endF_ok (n low code : Nat) (h : ¬ (code < low ∨ 1114111 < code ∨ (55296 ≤ code ∧ code < 57344))) : endF n low (some code) = (n + 1, decide (65535 < code)) := by rw [endF, if_neg h]

theorem div64 (b : Nat) (h : b < 256) : b / 64 = 2 ↔ 128 ≤ b ∧ b < 192 := by omega

def told (d : Nat × Nat) : Nat × Bool := if d.1 = 65533 ∧ d.2 = 1 then (0, false) else (d.2, decide (65535 < d.1))
theorem told_bad : told (65533, 1) = (0, false) := rfl
theorem told_two (c : Nat) (h : c ≤ 65535) : told (c, 2) = (2, false) := by
 unfold told; rw [if_neg (fun g => by have := g.2; omega), decide_eq_false (by simp; omega)]
theorem told_three (c : Nat) (h : c ≤ 65535) : told (c, 3) = (3, false) := by
 unfold told; rw [if_neg (fun g => by have := g.2; omega), decide_eq_false (by simp; omega)]
theorem told_four (c : Nat) (h : 65535 < c) : told (c, 4) = (4, true) := by
 unfold told; rw [if_neg (fun g => by have := g.2; omega), decide_eq_true (by simp; omega)]
theorem told_one (c : Nat) (h : c < 128) : told (c, 1) = (1, false) := by
 unfold told; rw [if_neg (fun g => by have := g.1; simp at this; omega), decide_eq_false (by simp; omega)]

theorem signN_decode (n b0 b1 b2 b3 : Nat) (h0 : b0 < 256) (h1 : b1 < 256) (h2 : b2 < 256) (h3 : b3 < 256) : signN n b0 b1 b2 b3 = told (decodeN n b0 b1 b2 b3) := by
 unfold signN decodeN
 simp only [div64 b1 h1, div64 b2 h2, div64 b3 h3]
 by_cases c0 : b0 < 128
 ·rw [if_pos c0, if_pos c0, told_one _ c0]
 rw [if_neg c0, if_neg c0]
 by_cases c1 : 194 ≤ b0 ∧ b0 < 224
 ·rw [if_pos c1]
  by_cases d1 : (1 < n ∧ 128 ≤ b1 ∧ b1 < 192)
  ·rw [if_pos d1, if_pos (show b0 / 32 = 6 ∧ (1 < n ∧ 128 ≤ b1 ∧ b1 < 192) from ⟨by omega, d1⟩), if_pos (show b0 % 32 * 64 + b1 % 64 ≥ 128 by omega), told_two _ (by omega)]
  ·rw [if_neg d1, if_neg (show ¬ (b0 / 32 = 6 ∧ (1 < n ∧ 128 ≤ b1 ∧ b1 < 192)) from fun g => d1 g.2), if_neg (show ¬ (b0 / 16 = 14 ∧ (1 < n ∧ 128 ≤ b1 ∧ b1 < 192) ∧ (2 < n ∧ 128 ≤ b2 ∧ b2 < 192)) from fun g => by have := g.1; omega), if_neg (show ¬ (b0 / 8 = 30 ∧ (1 < n ∧ 128 ≤ b1 ∧ b1 < 192) ∧ (2 < n ∧ 128 ≤ b2 ∧ b2 < 192) ∧ (3 < n ∧ 128 ≤ b3 ∧ b3 < 192)) from fun g => by have := g.1; omega), told_bad]
 rw [if_neg c1]
 by_cases c2 : 224 ≤ b0 ∧ b0 < 240
 ·rw [if_pos c2, if_neg (show ¬ (b0 / 32 = 6 ∧ (1 < n ∧ 128 ≤ b1 ∧ b1 < 192)) from fun g => by have := g.1; omega)]
  by_cases d2 : (1 < n ∧ 128 ≤ b1 ∧ b1 < 192) ∧ (2 < n ∧ 128 ≤ b2 ∧ b2 < 192)
  ·rw [if_pos d2, if_pos (show b0 / 16 = 14 ∧ (1 < n ∧ 128 ≤ b1 ∧ b1 < 192) ∧ (2 < n ∧ 128 ≤ b2 ∧ b2 < 192) from ⟨by omega, d2⟩)]
   have e : b0 % 16 * 4096 + b1 % 64 * 64 + b2 % 64 = ((b0 - 224) * 64 + b1 - 128) * 64 + b2 - 128 := by omega
   rw [e]
   generalize hx : ((b0 - 224) * 64 + b1 - 128) * 64 + b2 - 128 = x
   have hxl : x ≤ 65535 := by omega
   clear e hx
   by_cases g : x < 2048 ∨ 55296 ≤ x ∧ x < 57344
   ·rw [if_pos g, if_neg (show ¬ (x ≥ 2048 ∧ (x < 55296 ∨ (57344 ≤ x ∧ x ≤ 1114111))) by omega), told_bad]
   ·rw [if_neg g, if_pos (show x ≥ 2048 ∧ (x < 55296 ∨ (57344 ≤ x ∧ x ≤ 1114111)) by omega), told_three _ hxl]
  ·rw [if_neg d2, if_neg (show ¬ (b0 / 16 = 14 ∧ (1 < n ∧ 128 ≤ b1 ∧ b1 < 192) ∧ (2 < n ∧ 128 ≤ b2 ∧ b2 < 192)) from fun g => d2 g.2), if_neg (show ¬ (b0 / 8 = 30 ∧ (1 < n ∧ 128 ≤ b1 ∧ b1 < 192) ∧ (2 < n ∧ 128 ≤ b2 ∧ b2 < 192) ∧ (3 < n ∧ 128 ≤ b3 ∧ b3 < 192)) from fun g => by have := g.1; omega), told_bad]
 rw [if_neg c2]
 by_cases c3 : 240 ≤ b0 ∧ b0 < 245
 ·rw [if_pos c3, if_neg (show ¬ (b0 / 32 = 6 ∧ (1 < n ∧ 128 ≤ b1 ∧ b1 < 192)) from fun g => by have := g.1; omega), if_neg (show ¬ (b0 / 16 = 14 ∧ (1 < n ∧ 128 ≤ b1 ∧ b1 < 192) ∧ (2 < n ∧ 128 ≤ b2 ∧ b2 < 192)) from fun g => by have := g.1; omega)]
  by_cases d3 : (1 < n ∧ 128 ≤ b1 ∧ b1 < 192) ∧ (2 < n ∧ 128 ≤ b2 ∧ b2 < 192) ∧ (3 < n ∧ 128 ≤ b3 ∧ b3 < 192)
  ·rw [if_pos d3, if_pos (show b0 / 8 = 30 ∧ (1 < n ∧ 128 ≤ b1 ∧ b1 < 192) ∧ (2 < n ∧ 128 ≤ b2 ∧ b2 < 192) ∧ (3 < n ∧ 128 ≤ b3 ∧ b3 < 192) from ⟨by omega, d3⟩)]
   have e : b0 % 8 * 262144 + b1 % 64 * 4096 + b2 % 64 * 64 + b3 % 64 = (((b0 - 240) * 64 + b1 - 128) * 64 + b2 - 128) * 64 + b3 - 128 := by omega
   rw [e]
   generalize (((b0 - 240) * 64 + b1 - 128) * 64 + b2 - 128) * 64 + b3 - 128 = x
   clear e
   by_cases g : x < 65536 ∨ 1114111 < x
   ·rw [if_pos g, if_neg (show ¬ (x ≥ 65536 ∧ (x < 55296 ∨ (57344 ≤ x ∧ x ≤ 1114111))) by omega), told_bad]
   ·rw [if_neg g, if_pos (show x ≥ 65536 ∧ (x < 55296 ∨ (57344 ≤ x ∧ x ≤ 1114111)) by omega), told_four _ (by omega)]
  ·rw [if_neg d3, if_neg (show ¬ (b0 / 8 = 30 ∧ (1 < n ∧ 128 ≤ b1 ∧ b1 < 192) ∧ (2 < n ∧ 128 ≤ b2 ∧ b2 < 192) ∧ (3 < n ∧ 128 ≤ b3 ∧ b3 < 192)) from fun g => d3 g.2), told_bad]
 rw [if_neg c3]
 by_cases c4 : b0 / 32 = 6 ∧ (1 < n ∧ 128 ≤ b1 ∧ b1 < 192)
 ·rw [if_pos c4, if_neg (show ¬ (b0 % 32 * 64 + b1 % 64 ≥ 128) by omega), told_bad]
 rw [if_neg c4, if_neg (show ¬ (b0 / 16 = 14 ∧ (1 < n ∧ 128 ≤ b1 ∧ b1 < 192) ∧ (2 < n ∧ 128 ≤ b2 ∧ b2 < 192)) from fun g => by have := g.1; omega)]
 by_cases c5 : b0 / 8 = 30 ∧ (1 < n ∧ 128 ≤ b1 ∧ b1 < 192) ∧ (2 < n ∧ 128 ≤ b2 ∧ b2 < 192) ∧ (3 < n ∧ 128 ≤ b3 ∧ b3 < 192)
 ·rw [if_pos c5]
  have hx : 1114111 < b0 % 8 * 262144 + b1 % 64 * 4096 + b2 % 64 * 64 + b3 % 64 := by omega
  generalize b0 % 8 * 262144 + b1 % 64 * 4096 + b2 % 64 * 64 + b3 % 64 = x at hx
  rw [if_neg (show ¬ (x ≥ 65536 ∧ (x < 55296 ∨ (57344 ≤ x ∧ x ≤ 1114111))) by omega), told_bad]
 ·rw [if_neg c5, told_bad]

theorem signS_N (l : List UInt8) (hne : l ≠ []) : signS l = signN l.length (l.getD 0 0).toNat (l.getD 1 0).toNat (l.getD 2 0).toNat (l.getD 3 0).toNat := by
 cases l with
 | nil => exact absurd rfl hne
 | cons c r =>
  have hc := c.toNat_lt
  unfold signS signN headF
  simp only [List.getD_cons_zero, List.getD_cons_succ, List.length_cons]
  by_cases c0 : c.toNat < 128
  ·rw [if_pos c0, if_pos c0]
  rw [if_neg c0, if_neg c0]
  by_cases c1 : 194 ≤ c.toNat ∧ c.toNat < 224
  ·rw [if_pos c1, if_pos c1]
   rcases r with _ | ⟨b1, r⟩
   ·simp [contF, endF]
   ·have h1 := b1.toNat_lt
    simp only [contF, List.getD_cons_zero, List.length_cons]
    by_cases d1 : 128 ≤ b1.toNat ∧ b1.toNat < 192
    ·rw [if_pos d1, if_pos ⟨by omega, d1⟩]
     simp only [endF]
     rw [if_neg (by omega), decide_eq_false (by omega)]
    ·rw [if_neg d1, if_neg (fun g => d1 g.2)]; rfl
  rw [if_neg c1, if_neg c1]
  by_cases c2 : 224 ≤ c.toNat ∧ c.toNat < 240
  ·rw [if_pos c2, if_pos c2]
   rcases r with _ | ⟨b1, r⟩
   ·simp [contF, endF]
   ·have h1 := b1.toNat_lt
    simp only [contF, List.getD_cons_zero, List.getD_cons_succ, List.length_cons]
    by_cases d1 : 128 ≤ b1.toNat ∧ b1.toNat < 192
    ·rw [if_pos d1]
     rcases r with _ | ⟨b2, r⟩
     ·simp [contF, endF]
     ·have h2 := b2.toNat_lt
      simp only [contF, List.getD_cons_zero, List.length_cons]
      by_cases d2 : 128 ≤ b2.toNat ∧ b2.toNat < 192
      ·rw [if_pos d2, if_pos ⟨⟨by omega, d1⟩, by omega, d2⟩]
       simp only [endF]
       generalize hx : ((c.toNat - 224) * 64 + b1.toNat - 128) * 64 + b2.toNat - 128 = x
       have hxl : x ≤ 65535 := by omega
       clear hx
       by_cases g : x < 2048 ∨ 55296 ≤ x ∧ x < 57344
       ·rw [if_pos g, if_pos (by omega)]
       ·rw [if_neg g, if_neg (by omega), decide_eq_false (by omega)]
      ·rw [if_neg d2, if_neg (fun g => d2 g.2.2)]; rfl
    ·rw [if_neg d1, if_neg (fun g => d1 g.1.2)]; rfl
  rw [if_neg c2, if_neg c2]
  by_cases c3 : 240 ≤ c.toNat ∧ c.toNat < 245
  ·rw [if_pos c3, if_pos c3]
   rcases r with _ | ⟨b1, r⟩
   ·simp [contF, endF]
   ·have h1 := b1.toNat_lt
    simp only [contF, List.getD_cons_zero, List.getD_cons_succ, List.length_cons]
    by_cases d1 : 128 ≤ b1.toNat ∧ b1.toNat < 192
    ·rw [if_pos d1]
     rcases r with _ | ⟨b2, r⟩
     ·simp [contF, endF]
     ·have h2 := b2.toNat_lt
      simp only [contF, List.getD_cons_zero, List.getD_cons_succ, List.length_cons]
      by_cases d2 : 128 ≤ b2.toNat ∧ b2.toNat < 192
      ·rw [if_pos d2]
       rcases r with _ | ⟨b3, r⟩
       ·simp [contF, endF]
       ·have h3 := b3.toNat_lt
        simp only [contF, List.getD_cons_zero, List.length_cons]
        by_cases d3 : 128 ≤ b3.toNat ∧ b3.toNat < 192
        ·rw [if_pos d3, if_pos ⟨⟨by omega, d1⟩, ⟨by omega, d2⟩, by omega, d3⟩]
         simp only [endF]
         generalize (((c.toNat - 240) * 64 + b1.toNat - 128) * 64 + b2.toNat - 128) * 64 + b3.toNat - 128 = x
         by_cases g : x < 65536 ∨ 1114111 < x
         ·rw [if_pos g, if_pos (by omega)]
         ·rw [if_neg g, if_neg (by omega), decide_eq_true (by omega)]
        ·rw [if_neg d3, if_neg (fun g => d3 g.2.2.2)]; rfl
      ·rw [if_neg d2, if_neg (fun g => d2 g.2.1.2)]; rfl
    ·rw [if_neg d1, if_neg (fun g => d1 g.1.2)]; rfl
  ·rw [if_neg c3, if_neg c3]

theorem signS_decode (l : List UInt8) (hne : l ≠ []) : signS l = told (decodeL l) := by
 rw [signS_N l hne, decodeL_N]
 exact signN_decode _ _ _ _ _ (UInt8.toNat_lt _) (UInt8.toNat_lt _) (UInt8.toNat_lt _) (UInt8.toNat_lt _)

theorem valid_step (l : List UInt8) (hne : l ≠ []) : validD l = if (signS l).1 = 0 then false else validD (l.drop (signS l).1) := by
 rw [validD_step l hne, signS_decode l hne]
 unfold told
 by_cases h : (decodeL l).1 = 65533 ∧ (decodeL l).2 = 1
 ·rw [if_pos h, if_pos h]; rfl
 ·rw [if_neg h, if_neg h, if_neg]
  have := decodeL_width l
  omega

theorem signS_le (l : List UInt8) (hne : l ≠ []) : (signS l).1 ≤ l.length := by
 rw [signS_decode l hne]
 unfold told
 split
 ·simp
 ·exact decodeL_le l hne
end Go.Proofs.YtkhlfggnjcbniaaGreatDoor.utf
namespace Go.Proofs.YtkhlfggnjcbniaaGreatDoor.cln
open Go.Lib str link
def blanks : List UInt8 := [9, 10, 12, 13, 32]
def isB (c : UInt8) : Bool := blanks.contains c
def stripB (s : List UInt8) : List UInt8 := trimS s blanks
theorem stripB_le (s : List UInt8) : (stripB s).length ≤ s.length := by
 unfold stripB trimS trimLeftS trimRightS
 have h1 := (List.dropWhile_sublist (fun c => blanks.contains c) (l := (s.reverse.dropWhile (fun c => blanks.contains c)).reverse)).length_le
 have h2 := (List.dropWhile_sublist (fun c => blanks.contains c) (l := s.reverse)).length_le
 rw [List.length_reverse] at h1 h2
 omega
end Go.Proofs.YtkhlfggnjcbniaaGreatDoor.cln
namespace Go.Proofs.YtkhlfggnjcbniaaGreatDoor.cln
open Go.ChangeShapes Go.WideShapes Go.ChangeAt Go.RowKit Go.Lib
theorem trim_blanks (l : List UInt8) (hl : l.length ≤ 1000000000) (w : World) :
  Calls Tryz.prog 95 #[.string ⟨l.toArray⟩, .string ⟨#[9, 10, 12, 13, 32]⟩] w fun e w' => e = .returned (.string ⟨(stripB l).toArray⟩) ∧ Below w.heap.size w w' :=
 Any.strings_Trim_laid Tryz.lays160 (by kernel_rfl) ⟨l.toArray⟩ ⟨#[9, 10, 12, 13, 32]⟩ w (by rw [bsize]; omega) (by decide) (ascii_of_all (by decide))

theorem strip_any (s : List UInt8) (hs : s.length ≤ 10000000) (w : World) :
  Calls Tryz.prog 164 #[.string ⟨s.toArray⟩] w fun e w' => e = .returned (.string ⟨(stripB s).toArray⟩) ∧ Below w.heap.size w w' := by
 have h1 := fun w => trim_blanks s (by omega) w
 generalize stripB s = t at *
 go_enter Tryz.func164, Tryz.ntmps164
 go_wp2_with fail
 refine (h1 w).mono ?_
 rintro e w1 ⟨rfl, hB⟩
 go_wp2_with fail
 go_ret
 exact ⟨rfl, hB⟩

end Go.Proofs.YtkhlfggnjcbniaaGreatDoor.cln
namespace Go.Proofs.YtkhlfggnjcbniaaGreatDoor
open Go.ChangeShapes Go.WideShapes Go.WideElems
section
variable {H : Type} {enc : TypeId × Value → H} {P : Program}
theorem trodAll_stays (hl : laidOutB P = true) {W W' : World} {sp' : Nat → Bool} : ∀ {ts : List TypeId} {vs : List Value} {ds : List (DataW H)} {ps : List MemPlace}, (∀ t ∈ ts, P.readableRec t = true ∧ t < P.types.size) →
  DataW.TrodAll enc P W 0 (fun _ => true) true ts vs ds ps → (∀ p ∈ ps, W.sameAt W' p) → (∀ p ∈ ps, sp' p.block = true) → DataW.TrodAll enc P W' 0 sp' true ts vs ds ps
 | [], vs, ds, ps, _, h, _, _ => by
  obtain ⟨rfl, rfl, rfl⟩ := trodAll_nil h
  exact trodAll_mk0
 | t :: ts, vs, ds, ps, ht, h, hs, hp => by
  obtain ⟨v, vs1, d, ds1, a, b, rfl, rfl, rfl, h1, h2⟩ := trodAll_cons h
  have e := ht t List.mem_cons_self
  exact ⟨a, b, Trod_stays hl e.1 e.2 h1 (fun p q => hs p (List.mem_append_left _ q)) (fun p q => hp p (List.mem_append_left _ q)),
   trodAll_stays hl (fun t q => ht t (List.mem_cons_of_mem _ q)) h2 (fun p q => hs p (List.mem_append_right _ q)) (fun p q => hp p (List.mem_append_right _ q)), rfl⟩
end
end Go.Proofs.YtkhlfggnjcbniaaGreatDoor
namespace Go.Proofs.YtkhlfggnjcbniaaGreatDoor
open Go.RowKit

def Blk (w : World) (B : Nat) (cs : List Value) : Prop := ∃ T, w.heap[B]? = some (.cells cs.toArray T (0, 0))
theorem Blk.lt {w : World} {B : Nat} {cs : List Value} (h : Blk w B cs) : B < w.heap.size := by
 obtain ⟨T, h⟩ := h
 apply Nat.lt_of_not_le; intro g
 rw [Array.getElem?_eq_none g] at h; cases h
theorem Blk.cell {w : World} {B : Nat} {cs : List Value} (h : Blk w B cs) (k : Nat) : w.cell? ⟨B, k, none⟩ = cs[k]? := by
 obtain ⟨T, h⟩ := h
 simp [World.cell?, h]
theorem Blk.frozen {w : World} {B : Nat} {cs : List Value} (h : Blk w B cs) (k : Nat) : w.frozen? ⟨B, k, none⟩ = false := by
 obtain ⟨T, h⟩ := h
 simp [World.frozen?, h]
theorem Blk.set {w : World} {B : Nat} {cs : List Value} (h : Blk w B cs) (k : Nat) (v : Value) : Blk (w.setCell ⟨B, k, none⟩ v) B (cs.set k v) := by
 have hlt := h.lt
 obtain ⟨T, h⟩ := h
 have h' : w.heap[B] = .cells cs.toArray T (0, 0) := by simpa [Array.getElem?_eq_getElem hlt] using h
 refine ⟨T, ?_⟩
 show (w.heap.modify B _)[B]? = _
 rw [Array.getElem?_eq_getElem (by simpa using hlt), Array.getElem_modify_self, h']
 simp
theorem Blk.other {w : World} {B : Nat} {cs : List Value} (h : Blk w B cs) (a : Addr) (v : Value) (ha : a.block ≠ B) : Blk (w.setCell a v) B cs := by
 obtain ⟨T, h⟩ := h
 exact ⟨T, by rw [Below.heap_setCell w a v B (Ne.symm ha)]; exact h⟩
theorem Blk.alloc {w : World} {B : Nat} {cs : List Value} (h : Blk w B cs) (o : Obj) : Blk (w.alloc o) B cs := by
 have hlt := h.lt
 obtain ⟨T, h⟩ := h
 exact ⟨T, by rw [Below.heap_alloc w o B hlt]; exact h⟩
theorem Blk.drew {w : World} {B : Nat} {cs : List Value} (h : Blk w B cs) : Blk w.drew B cs := h
theorem Blk.fresh (w : World) (cs : List Value) (T : TypeId) : Blk (w.alloc (.cells cs.toArray T)) w.heap.size cs := by
 refine ⟨T, ?_⟩
 show (w.heap.push _)[w.heap.size]? = _
 simp
theorem Blk.below {w w' : World} {B : Nat} {cs : List Value} (h : Blk w B cs) {n : Nat} (hb : Below n w w') (hn : B < n) : Blk w' B cs := by
 obtain ⟨T, h⟩ := h
 exact ⟨T, by rw [hb.block _ hn]; exact h⟩
theorem Blk.kept {w w' : World} {B : Nat} {cs : List Value} (h : Blk w B cs) (hb : Below w.heap.size w w') : Blk w' B cs := h.below hb h.lt
theorem Blk.ten {w : World} {B : Nat} {a0 a1 a2 a3 a4 a5 a6 a7 a8 a9 : Value} (h : Blk w B [a0, a1, a2, a3, a4, a5, a6, a7, a8, a9]) :
  w.cell? ⟨B, 0, none⟩ = some a0 ∧ w.cell? ⟨B, 1, none⟩ = some a1 ∧ w.cell? ⟨B, 2, none⟩ = some a2 ∧ w.cell? ⟨B, 3, none⟩ = some a3 ∧ w.cell? ⟨B, 4, none⟩ = some a4 ∧ w.cell? ⟨B, 5, none⟩ = some a5 ∧ w.cell? ⟨B, 6, none⟩ = some a6 ∧ w.cell? ⟨B, 7, none⟩ = some a7 ∧ w.cell? ⟨B, 8, none⟩ = some a8 ∧ w.cell? ⟨B, 9, none⟩ = some a9 ∧
  w.frozen? ⟨B, 0, none⟩ = false ∧ w.frozen? ⟨B, 1, none⟩ = false ∧ w.frozen? ⟨B, 2, none⟩ = false ∧ w.frozen? ⟨B, 3, none⟩ = false ∧ w.frozen? ⟨B, 4, none⟩ = false ∧ w.frozen? ⟨B, 5, none⟩ = false ∧ w.frozen? ⟨B, 6, none⟩ = false ∧ w.frozen? ⟨B, 7, none⟩ = false ∧ w.frozen? ⟨B, 8, none⟩ = false ∧ w.frozen? ⟨B, 9, none⟩ = false :=
 ⟨h.cell 0, h.cell 1, h.cell 2, h.cell 3, h.cell 4, h.cell 5, h.cell 6, h.cell 7, h.cell 8, h.cell 9, h.frozen 0, h.frozen 1, h.frozen 2, h.frozen 3, h.frozen 4, h.frozen 5, h.frozen 6, h.frozen 7, h.frozen 8, h.frozen 9⟩
end Go.Proofs.YtkhlfggnjcbniaaGreatDoor
namespace Go.Proofs.YtkhlfggnjcbniaaGreatDoor.doc
open cln

def colS (out : List UInt8) (ahead : Bool) : List UInt8 → List UInt8
 | [] => out
 | c :: r => if isB c then colS out (decide (0 < out.length)) r else colS (out ++ (if ahead then [32] else []) ++ [c]) false r
def collapseS (s : List UInt8) : List UInt8 := colS [] false s
end Go.Proofs.YtkhlfggnjcbniaaGreatDoor.doc
namespace Go.Proofs.YtkhlfggnjcbniaaGreatDoor
open Go.RowKit
theorem rcell1 {fn : Func} {p : Tmp} {ty : TypeId} (h : fn.results = #[.cell p ty]) (tmps : Array Value) (P : Program) (w : World) :
  (results fn tmps).run P w = ((asAddr (tmps.getD p undef)).run P w).andThen fun a w₁ => (loadVar ty a).run P w₁ := by
 simp only [results, h]
 simp [Sem.run_bind, Result.andThen]
end Go.Proofs.YtkhlfggnjcbniaaGreatDoor
namespace Go.Proofs.YtkhlfggnjcbniaaGreatDoor.num
open Go.ChangeShapes Go.WideShapes Go.ChangeAt Go.RowKit Go.Lib

theorem isDig_nat (c : UInt8) (h : isDig c = true) : 48 ≤ c.toNat ∧ c.toNat ≤ 57 := by
 have := (isDig_iff c).1 h
 omega

theorem parse_val (l : List UInt8) : ∀ n, allDig l = true → (valFrom n l < 18446744073709551616 → parseUint10 n l = .ok (valFrom n l)) ∧ (18446744073709551616 ≤ valFrom n l → n < 18446744073709551616 → parseUint10 n l = .range) := by
 induction l with
 | nil => intro n _; exact ⟨fun _ => rfl, fun h g => absurd h (by show ¬ _ ≤ n; omega)⟩
 | cons c r ih =>
  intro n hd
  rw [allDig_cons, Bool.and_eq_true] at hd
  obtain ⟨h1, h2⟩ := hd
  have hc := isDig_nat c h1
  have hg := valFrom_ge (n * 10 + dv c) r
  rw [parseUint10, if_pos hc, valFrom_cons]
  obtain ⟨i1, i2⟩ := ih (n * 10 + dv c) h2
  rw [dv_eq] at *
  constructor
  ·intro h
   rw [if_neg (by omega), if_neg (by omega)]
   exact i1 h
  ·intro h hn
   by_cases g1 : 1844674407370955162 ≤ n
   ·rw [if_pos g1]
   ·rw [if_neg g1]
    by_cases g2 : 18446744073709551616 ≤ n * 10 + (c.toNat - 48)
    ·rw [if_pos g2]
    ·rw [if_neg g2]
     exact i2 h (by omega)

theorem atoi_val (l : List UInt8) (hp : 0 < l.length) (h2 : allDig l = true) : (val l < 9223372036854775808 ∧ atoiAll l = .ok (val l : Int)) ∨ (9223372036854775808 ≤ val l ∧ ∀ v, atoiAll l ≠ .ok v) := by
 cases l with
 | nil => simp at hp
 | cons c r =>
  have hp := parse_val (c :: r) 0 h2
  have hc : 48 ≤ c.toNat ∧ c.toNat ≤ 57 := by
   rw [allDig_cons, Bool.and_eq_true] at h2
   exact isDig_nat c h2.1
  unfold val
  generalize valFrom 0 (c :: r) = n at *
  have e : atoiAll (c :: r) = match parseMag (c :: r) with
   | .ok u => if 9223372036854775808 ≤ u then .range else .ok (u : Int)
   | .range => .range
   | _ => atoiAll [] := by
   unfold atoiAll
   simp only []
   rw [if_neg (by omega)]
   have h45 : ¬ c.toNat = 45 := by omega
   simp only [h45, not_false_eq_true, true_and, false_and, if_false]
   cases parseMag (c :: r) <;> rfl
  have em : parseMag (c :: r) = parseUint10 0 (c :: r) := by unfold parseMag; rw [if_neg (by simp)]
  rw [em] at e
  by_cases g : n < 18446744073709551616
  ·rw [hp.1 g] at e
   simp only [] at e
   by_cases g2 : n < 9223372036854775808
   ·left; rw [if_neg (by omega)] at e; exact ⟨g2, e⟩
   ·right; rw [if_pos (by omega)] at e; exact ⟨by omega, fun v h => by rw [e] at h; cases h⟩
  ·right
   rw [hp.2 (by omega) (by omega)] at e
   exact ⟨by omega, fun v h => by rw [e] at h; cases h⟩

theorem atoi_any (l : List UInt8) (hl : l.length ≤ 1000000000) (w : World) (hE : GE w) :
  Calls Tryz.prog 96 #[.string ⟨l.toArray⟩] w fun e w' => Below w.heap.size w w' ∧
   ((∃ v, atoiAll l = .ok v ∧ e = .returned (.tuple #[.int .i64 v, .nilIface])) ∨ ((∀ v, atoiAll l ≠ .ok v) ∧ ∃ (n : Int) (N : Nat), (-9223372036854775808 ≤ n ∧ n ≤ 9223372036854775807) ∧ e = .returned (.tuple #[.int .i64 n, .iface 194 (.pointer (some ⟨N, 0, none⟩))]))) := by
 obtain ⟨ev, hev, hev2⟩ := hE.er
 obtain ⟨es, hes, hes2⟩ := hE.es
 have hb : (⟨l.toArray⟩ : ByteArray).size ≤ 1000000000 := by rw [bsize]; omega
 cases h : atoiAll l
 ·rename_i v
  refine (Tryz.strconv_Atoi_ok ⟨l.toArray⟩ (by omega) v h w).mono ?_
  rintro e w' ⟨rfl, hw⟩
  refine ⟨?_, .inl ⟨v, rfl, rfl⟩⟩
  rcases hw with rfl | ⟨t, rfl⟩
  ·exact Below.refl _ _
  ·exact Lib.bytesWorld_below _ _ _
 ·refine (Any.strconv_Atoi_syntax Tryz.laysC172 ⟨l.toArray⟩ (by omega) h es w hes hes2).mono ?_
  rintro e w' ⟨N, rfl, _, _, hB⟩
  exact ⟨hB, .inr ⟨(fun v g => by cases g), _, N, ⟨by decide, by decide⟩, rfl⟩⟩
 ·refine (Any.strconv_Atoi_range Tryz.laysC172 ⟨l.toArray⟩ (by omega) h ev w hev hev2).mono ?_
  rintro e w' ⟨N, rfl, _, _, hB⟩
  exact ⟨hB, .inr ⟨(fun v g => by cases g), _, N, Lib.atoiSat_bounds l, rfl⟩⟩
end Go.Proofs.YtkhlfggnjcbniaaGreatDoor.num
namespace Go.Proofs.YtkhlfggnjcbniaaGreatDoor.num
open Go.Lib str

def digB (l : List UInt8) : Bool := !(l == []) && allDig l

def badB (t : List UInt8) : Bool :=
 ((cut1 46 t).2.2 && !digB (cut1 46 t).2.1) || (!((cut1 46 t).1 == []) && !digB (cut1 46 t).1) || (((cut1 46 t).1 == []) && !(cut1 46 t).2.2)

theorem dig_split (l : List UInt8) (h : allDig l = false) : ∃ c r, l.drop (cnt l) = c :: r ∧ c ∈ l := by
 cases hd : l.drop (cnt l) with
 | nil =>
  have h1 := congrArg List.length hd
  simp at h1
  have h2 := cnt_le l
  have h3 := (cnt_all l).1 (by omega)
  rw [h] at h3; cases h3
 | cons c r => exact ⟨c, r, rfl, List.drop_subset (cnt l) l (by rw [hd]; simp)⟩

theorem cnt_app_bad (a b : List UInt8) (h : allDig a = false) : cnt (a ++ b) = cnt a := by
 induction a with
 | nil => cases h
 | cons c a ih =>
  rw [allDig_cons] at h
  rw [List.cons_append]
  unfold cnt
  cases hc : isDig c
  ·simp
  ·simp [hc] at h
   simp [ih h]

theorem parse_form (neg : Bool) (t : List UInt8) : parseT neg t = if badB t = true then (0, 1) else fin neg (cut1 46 t).1 (cut1 46 t).2.1 := by
 unfold badB digB
 rcases cut1_spec 46 t with ⟨h1, h2, h3⟩ | ⟨h1, h2, h3, h4⟩
 ·generalize (cut1 46 t).1 = h at *
  generalize (cut1 46 t).2.1 = p at *
  rw [h1]
  cases hh : allDig h
  ·obtain ⟨c, r, e1, e2⟩ := dig_split h hh
   have hc : cnt t = cnt h := by rw [h2]; exact cnt_app_bad h _ hh
   have hd : t.drop (cnt t) = c :: (r ++ 46 :: p) := by
    rw [hc, h2, List.drop_append_of_le_length (cnt_le h), e1]; rfl
   have hne : h ≠ [] := by rintro rfl; cases hh
   rw [parseT_cons neg t c _ hd, if_neg (fun (g : c = 46 ∧ _) => h3 (g.1 ▸ e2)), if_pos]
   simp [hne]
  ·have hc : cnt t = h.length := by
    rw [h2, cnt_append h _ hh]
    have : cnt (46 :: p) = 0 := by unfold cnt; rw [if_neg (by decide)]
    omega
   have hd : t.drop (cnt t) = 46 :: p := by rw [hc, h2, List.drop_left]
   rw [parseT_cons neg t 46 p hd]
   have ht : t.take (cnt t) = h := by rw [hc, h2, List.take_left]
   rw [ht]
   by_cases hp : p = []
   ·subst hp; simp
   ·cases hpd : allDig p
    ·simp [hp]
    ·simp [hp]
 ·rw [h1, h2, h3]
  cases hh : allDig t
  ·obtain ⟨c, r, e1, e2⟩ := dig_split t hh
   have hne : t ≠ [] := by rintro rfl; cases hh
   rw [parseT_cons neg t c r e1, if_neg (fun (g : c = 46 ∧ _) => h4 (g.1 ▸ e2)), if_pos]
   simp
  ·have hc := (cnt_all t).2 hh
   have hd : t.drop (cnt t) = [] := List.drop_eq_nil_of_le (by omega)
   have ht : t.take (cnt t) = t := List.take_of_length_le (by omega)
   rw [parseT_nil neg t hd, ht, hc]
   cases t with
   | nil => simp
   | cons a b => simp


theorem bad_dig (t : List UInt8) (h : badB t = false) : allDig (cut1 46 t).1 = true ∧ allDig (cut1 46 t).2.1 = true := by
 unfold badB digB at h
 rcases cut1_spec 46 t with ⟨h1, _, _⟩ | ⟨h1, _, h3, _⟩
 ·rw [h1] at h
  cases hh : (cut1 46 t).1 with
  | nil => rw [hh] at h; simp at h; exact ⟨rfl, h.2⟩
  | cons a b => rw [hh] at h; simp at h; exact ⟨h.2, h.1.2⟩
 ·rw [h1] at h
  rw [h3]
  cases hh : (cut1 46 t).1 with
  | nil => exact ⟨rfl, rfl⟩
  | cons a b => rw [hh] at h; simp at h; exact ⟨h, rfl⟩

theorem six (q : List UInt8) (hq : allDig q = true) (hl : q.length ≤ 6) :
  allDig (q ++ List.replicate (6 - q.length) 48) = true ∧ val (q ++ List.replicate (6 - q.length) 48) = val q * 10 ^ (6 - q.length) ∧ val (q ++ List.replicate (6 - q.length) 48) ≤ 999999 := by
 have h1 : allDig (q ++ List.replicate (6 - q.length) 48) = true := by
  unfold allDig at *
  rw [List.all_append, hq, Bool.true_and]
  rw [List.all_eq_true]
  intro x hx
  rw [(List.mem_replicate.1 hx).2]; decide
 refine ⟨h1, ?_, ?_⟩
 ·rw [val_append, val_zeros, List.length_replicate]; omega
 ·have := val_lt _ h1
  rw [List.length_append, List.length_replicate, show q.length + (6 - q.length) = 6 by omega] at this
  omega

end Go.Proofs.YtkhlfggnjcbniaaGreatDoor.num
