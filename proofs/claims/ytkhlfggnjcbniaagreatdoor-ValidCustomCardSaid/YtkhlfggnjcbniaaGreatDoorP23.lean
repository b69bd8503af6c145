/- A part of the proofs: lemmas and contracts. -/
import Derived.Test.YtkhlfggnjcbniaaGreatDoorP22
set_option maxHeartbeats 12800000
set_option maxRecDepth 1000000
namespace Go.Proofs.YtkhlfggnjcbniaaGreatDoor.link
open Go.Lib

def hexOk (c : UInt8) : Bool := decide (0 ≤ hexN c.toNat)
def hexS : List UInt8 := [48, 49, 50, 51, 52, 53, 54, 55, 56, 57, 97, 98, 99, 100, 101, 102, 65, 66, 67, 68, 69, 70]
theorem hexS_has (c : UInt8) : hexS.contains c = hexOk c := by
 have : ∀ n : Fin 256, hexS.contains (UInt8.ofNat n.1) = hexOk (UInt8.ofNat n.1) := by decide +kernel
 have h := this ⟨c.toNat, c.toNat_lt⟩
 simpa using h

theorem dropWhile_nil (p : UInt8 → Bool) (l : List UInt8) : l.dropWhile p = [] ↔ l.all p = true := by
 induction l with
 | nil => simp
 | cons c l ih => rw [List.dropWhile_cons]; cases h : p c <;> simp [h, ih]

theorem trim_all (l cs : List UInt8) : trimS l cs = [] ↔ l.all (fun c => cs.contains c) = true := by
 unfold trimS trimLeftS trimRightS
 constructor
 ·intro h
  have h1 := (dropWhile_nil _ _).1 h
  rw [List.all_reverse] at h1
  have : ∀ m : List UInt8, (m.dropWhile (fun c => cs.contains c)).all (fun c => cs.contains c) = true → m.all (fun c => cs.contains c) = true := by
   intro m
   induction m with
   | nil => simp
   | cons c m ih =>
    rw [List.dropWhile_cons, List.all_cons]
    cases hc : cs.contains c
    ·simp only [Bool.false_eq_true, if_false, List.all_cons, hc]; exact id
    ·simp only [if_true, Bool.true_and]; exact ih
  have h2 := this _ h1
  rwa [List.all_reverse] at h2
 ·intro h
  have h1 : l.reverse.dropWhile (fun c => cs.contains c) = [] := (dropWhile_nil _ _).2 (by rw [List.all_reverse]; exact h)
  rw [h1]; rfl

def hexesB (l : List UInt8) : Bool := !(l == []) && l.all hexOk
theorem hexes_trim (l : List UInt8) : hexesB l = (!(l == []) && (trimS l hexS == [])) := by
 unfold hexesB
 congr 1
 rw [Bool.eq_iff_iff, beq_iff_eq, trim_all]
 have : (fun c => hexS.contains c) = hexOk := funext hexS_has
 rw [this]

def sets : List (List UInt8) := [[33, 36, 38, 39, 40, 41, 42, 43, 44, 59, 61], [45, 46, 47, 58, 63, 64, 95, 126]]
def okB (c : UInt8) : Bool := decide (128 ≤ c.toNat) || plainB c || amongB sets c
def hex2 : List UInt8 → Bool
 | a :: b :: _ => hexOk a && hexOk b
 | _ => false
def fineB : List UInt8 → Bool
 | [] => true
 | c :: r => if c = 37 then hex2 r && fineB r else okB c && fineB r

theorem fine_cons (c : UInt8) (r : List UInt8) (h : c ≠ 37) : fineB (c :: r) = (okB c && fineB r) := by rw [fineB, if_neg h]
theorem fine_pct (r : List UInt8) : fineB (37 :: r) = (hex2 r && fineB r) := by rw [fineB, if_pos rfl]
def fineS (l : List UInt8) : Bool := validD l && fineB l
end Go.Proofs.YtkhlfggnjcbniaaGreatDoor.link
namespace Go.Proofs.YtkhlfggnjcbniaaGreatDoor.link
open Go.ChangeShapes Go.WideShapes Go.ChangeAt Go.RowKit Go.Lib

theorem trim_hex (l : List UInt8) (hl : l.length ≤ 1000000000) (w : World) :
  Calls Tryz.prog 95 #[.string ⟨l.toArray⟩, .string ⟨#[48, 49, 50, 51, 52, 53, 54, 55, 56, 57, 97, 98, 99, 100, 101, 102, 65, 66, 67, 68, 69, 70]⟩] w fun e w' => e = .returned (.string ⟨(trimS l hexS).toArray⟩) ∧ Below w.heap.size w w' :=
 Any.strings_Trim_laid Tryz.lays160 (by kernel_rfl) ⟨l.toArray⟩ ⟨#[48, 49, 50, 51, 52, 53, 54, 55, 56, 57, 97, 98, 99, 100, 101, 102, 65, 66, 67, 68, 69, 70]⟩ w (by rw [bsize]; omega) (by decide) (ascii_of_all (by decide))

theorem hexes_any (l : List UInt8) (hl : l.length ≤ 1000000000) (w : World) :
  Calls Tryz.prog 232 #[.string ⟨l.toArray⟩] w fun e w' => e = .returned (.bool (hexesB l)) ∧ Below w.heap.size w w' := by
 have ht := trim_hex l hl w
 have hq := hexes_trim l
 cases l with
 | nil =>
  clear ht hq
  go_enter Tryz.func232, Tryz.ntmps232
  go_wp2_with fail
  go_ret
  exact ⟨rfl, Below.refl _ _⟩
 | cons c r =>
  have HX : Hid (hexesB (c :: r) = (trimS (c :: r) hexS == [])) := Lib.hid (by rw [hq]; rfl)
  clear hq
  generalize trimS (c :: r) hexS = x at ht HX
  go_enter Tryz.func232, Tryz.ntmps232
  go_wp2_with fail
  refine ht.mono ?_
  rintro e w' ⟨rfl, hB⟩
  clear ht
  cases x with
  | nil =>
   go_wp2_with fail
   go_ret
   exact ⟨ret_bool (by rw [HX.out]; rfl), hB⟩
  | cons a b =>
   go_wp2_with fail
   go_ret
   exact ⟨ret_bool (by rw [HX.out]; rfl), hB⟩

def digC (c : UInt8) : Bool := decide (48 ≤ c.toNat) && decide (c.toNat ≤ 57)
def digS : List UInt8 := [48, 49, 50, 51, 52, 53, 54, 55, 56, 57]
theorem digS_has (c : UInt8) : digS.contains c = digC c := by
 have : ∀ n : Fin 256, digS.contains (UInt8.ofNat n.1) = digC (UInt8.ofNat n.1) := by decide +kernel
 have h := this ⟨c.toNat, c.toNat_lt⟩
 simpa using h
def digsA : List UInt8 → Bool
 | [] => true
 | c :: l => digC c && digsA l
theorem digsA_all (l : List UInt8) : digsA l = l.all digC := by
 induction l with
 | nil => rfl
 | cons c l ih => rw [digsA, List.all_cons, ih]
def digsB (l : List UInt8) : Bool := !(l == []) && digsA l
theorem digs_trim (l : List UInt8) : digsB l = (!(l == []) && (trimS l digS == [])) := by
 unfold digsB
 congr 1
 rw [Bool.eq_iff_iff, beq_iff_eq, trim_all, digsA_all]
 have : (fun c => digS.contains c) = digC := funext digS_has
 rw [this]

theorem trim_dig (l : List UInt8) (hl : l.length ≤ 1000000000) (w : World) :
  Calls Tryz.prog 95 #[.string ⟨l.toArray⟩, .string ⟨#[48, 49, 50, 51, 52, 53, 54, 55, 56, 57]⟩] w fun e w' => e = .returned (.string ⟨(trimS l digS).toArray⟩) ∧ Below w.heap.size w w' :=
 Any.strings_Trim_laid Tryz.lays160 (by kernel_rfl) ⟨l.toArray⟩ ⟨#[48, 49, 50, 51, 52, 53, 54, 55, 56, 57]⟩ w (by rw [bsize]; omega) (by decide) (ascii_of_all (by decide))

theorem digs_any (l : List UInt8) (hl : l.length ≤ 1000000000) (w : World) :
  Calls Tryz.prog 237 #[.string ⟨l.toArray⟩] w fun e w' => e = .returned (.bool (digsB l)) ∧ Below w.heap.size w w' := by
 have ht := trim_dig l hl w
 have hq := digs_trim l
 cases l with
 | nil =>
  clear ht hq
  go_enter Tryz.func237, Tryz.ntmps237
  go_wp2_with fail
  go_ret
  exact ⟨rfl, Below.refl _ _⟩
 | cons c r =>
  have HX : Hid (digsB (c :: r) = (trimS (c :: r) digS == [])) := Lib.hid (by rw [hq]; rfl)
  clear hq
  generalize trimS (c :: r) digS = x at ht HX
  go_enter Tryz.func237, Tryz.ntmps237
  go_wp2_with fail
  refine ht.mono ?_
  rintro e w' ⟨rfl, hB⟩
  clear ht
  cases x with
  | nil =>
   go_wp2_with fail
   go_ret
   exact ⟨ret_bool (by rw [HX.out]; rfl), hB⟩
  | cons a b =>
   go_wp2_with fail
   go_ret
   exact ⟨ret_bool (by rw [HX.out]; rfl), hB⟩

theorem dig_ways (c : UInt8) : (c.toNat < 48 ∧ digC c = false) ∨ (48 ≤ c.toNat ∧ c.toNat ≤ 57 ∧ digC c = true) ∨ (57 < c.toNat ∧ digC c = false) := by
 unfold digC
 by_cases h : c.toNat < 48
 ·left; exact ⟨h, by simp; omega⟩
 ·by_cases g : c.toNat ≤ 57
  ·right; left; exact ⟨by omega, g, by simp; omega⟩
  ·right; right; exact ⟨by omega, by simp; omega⟩


def valN : Nat → List UInt8 → Nat
 | n, [] => n
 | n, c :: r => valN (if n < 1000000 then 10 * n + (c.toNat - 48) else n) r


@[irreducible] def dg (n : Nat) (c : UInt8) : Nat := 10 * n + (c.toNat - 48)
theorem dg_eq (n : Nat) (c : UInt8) : dg n c = 10 * n + (c.toNat - 48) := by unfold dg; rfl
def decV : Nat → List UInt8 → Nat
 | n, [] => n
 | n, c :: r => decV (dg n c) r
theorem decV_cons (n : Nat) (c : UInt8) (r : List UInt8) : decV n (c :: r) = decV (10 * n + (c.toNat - 48)) r := by rw [← dg_eq]; rfl

theorem decV_ge (l : List UInt8) : ∀ n, n ≤ decV n l := by
 induction l with
 | nil => intro n; exact Nat.le_refl _
 | cons c r ih => intro n; have := ih (10 * n + (c.toNat - 48)); rw [decV_cons]; omega

theorem valN_ge (l : List UInt8) : ∀ n, n ≤ valN n l := by
 induction l with
 | nil => intro n; exact Nat.le_refl _
 | cons c r ih =>
  intro n
  rw [valN]
  split
  ·have := ih (10 * n + (c.toNat - 48)); omega
  ·exact ih n

theorem valN_dec (B : Nat) (hB : B < 1000000) (l : List UInt8) : ∀ n, (valN n l ≤ B ↔ decV n l ≤ B) := by
 induction l with
 | nil => intro n; exact Iff.rfl
 | cons c r ih =>
  intro n
  rw [valN, decV_cons]
  by_cases h : n < 1000000
  ·rw [if_pos h]; exact ih _
  ·rw [if_neg h]
   have h1 := valN_ge r n
   have h2 := decV_ge r (10 * n + (c.toNat - 48))
   omega

theorem parse_dec (l : List UInt8) : ∀ n, digsA l = true → (decV n l < 18446744073709551616 → parseUint10 n l = .ok (decV n l)) ∧ (18446744073709551616 ≤ decV n l → n < 18446744073709551616 → parseUint10 n l = .range) := by
 induction l with
 | nil => intro n _; exact ⟨fun _ => rfl, fun h g => absurd h (by unfold decV; omega)⟩
 | cons c r ih =>
  intro n hd
  rw [digsA, Bool.and_eq_true] at hd
  obtain ⟨h1, h2⟩ := hd
  have hc : 48 ≤ c.toNat ∧ c.toNat ≤ 57 := by unfold digC at h1; simpa using h1
  have hg := decV_ge r (10 * n + (c.toNat - 48))
  have hcm : n * 10 + (c.toNat - 48) = 10 * n + (c.toNat - 48) := by omega
  rw [parseUint10, if_pos hc, decV_cons, hcm]
  obtain ⟨i1, i2⟩ := ih (10 * n + (c.toNat - 48)) h2
  constructor
  ·intro h
   rw [if_neg (by omega), if_neg (by omega)]
   exact i1 h
  ·intro h hn
   by_cases g1 : 1844674407370955162 ≤ n
   ·rw [if_pos g1]
   ·rw [if_neg g1]
    by_cases g2 : 18446744073709551616 ≤ 10 * n + (c.toNat - 48)
    ·rw [if_pos g2]
    ·rw [if_neg g2]
     exact i2 h (by omega)

theorem atoi_dec (l : List UInt8) (hd : digsB l = true) : (decV 0 l < 9223372036854775808 ∧ atoiAll l = .ok (decV 0 l : Int)) ∨ (9223372036854775808 ≤ decV 0 l ∧ ∀ v, atoiAll l ≠ .ok v) := by
 unfold digsB at hd
 rw [Bool.and_eq_true] at hd
 obtain ⟨h1, h2⟩ := hd
 cases l with
 | nil => cases h1
 | cons c r =>
  have hp := parse_dec (c :: r) 0 h2
  have hc : 48 ≤ c.toNat ∧ c.toNat ≤ 57 := by
   rw [digsA, Bool.and_eq_true] at h2
   have := h2.1
   unfold digC at this; simpa using this
  generalize decV 0 (c :: r) = n at *
  have e : atoiAll (c :: r) = match parseMag (c :: r) with
   | .ok u => if 9223372036854775808 ≤ u then .range else .ok (u : Int)
   | .range => .range
   | _ => atoiAll [] := by
   unfold atoiAll
   simp only []
   rw [if_neg (by omega)]
   have h45 : ¬ c.toNat = 45 := by omega
   simp only [h45, not_false_eq_true, true_and, false_and, if_false]
   cases parseMag (c :: r) <;> rfl
  have em : parseMag (c :: r) = parseUint10 0 (c :: r) := by unfold parseMag; rw [if_neg (by simp)]
  rw [em] at e
  by_cases g : n < 18446744073709551616
  ·rw [hp.1 g] at e
   simp only [] at e
   by_cases g2 : n < 9223372036854775808
   ·left; rw [if_neg (by omega)] at e; exact ⟨g2, e⟩
   ·right; rw [if_pos (by omega)] at e; exact ⟨by omega, fun v h => by rw [e] at h; cases h⟩
  ·right
   rw [hp.2 (by omega) (by omega)] at e
   exact ⟨by omega, fun v h => by rw [e] at h; cases h⟩

theorem atoi_bound (l : List UInt8) (hd : digsB l = true) (B : Nat) (hB : B < 1000000) :
  (∃ v : Int, atoiAll l = .ok v ∧ v ≤ 9223372036854775807 ∧ ((B : Int) < v ↔ B < valN 0 l)) ∨ ((∀ v, atoiAll l ≠ .ok v) ∧ B < valN 0 l) := by
 have hv := valN_dec B hB l 0
 rcases atoi_dec l hd with ⟨h1, h2⟩ | ⟨h1, h2⟩
 ·left; exact ⟨_, h2, by omega, by omega⟩
 ·right; exact ⟨h2, by omega⟩

theorem decV_small (l : List UInt8) : ∀ n, digsA l = true → decV n l < (n + 1) * 10 ^ l.length := by
 induction l with
 | nil => intro n _; simp [decV]
 | cons c r ih =>
  intro n hd
  rw [digsA, Bool.and_eq_true] at hd
  have hc : 48 ≤ c.toNat ∧ c.toNat ≤ 57 := by have := hd.1; unfold digC at this; simpa using this
  have h := ih (10 * n + (c.toNat - 48)) hd.2
  rw [decV_cons, List.length_cons, Nat.pow_succ]
  have h2 : (10 * n + (c.toNat - 48) + 1) * 10 ^ r.length ≤ (n + 1) * 10 * 10 ^ r.length := Nat.mul_le_mul_right _ (by omega)
  have h3 : (n + 1) * 10 * 10 ^ r.length = (n + 1) * (10 ^ r.length * 10) := by rw [Nat.mul_assoc, Nat.mul_comm 10]
  omega

theorem atoi_any (l : List UInt8) (hl : l.length ≤ 1000000000) (w : World) (hE : GE w) :
  Calls Tryz.prog 96 #[.string ⟨l.toArray⟩] w fun e w' => Below w.heap.size w w' ∧
   ((∃ v, atoiAll l = .ok v ∧ e = .returned (.tuple #[.int .i64 v, .nilIface])) ∨ ((∀ v, atoiAll l ≠ .ok v) ∧ ∃ n N, e = .returned (.tuple #[.int .i64 n, .iface 194 (.pointer (some ⟨N, 0, none⟩))]))) := by
 obtain ⟨ev, hev, hev2⟩ := hE.er
 obtain ⟨es, hes, hes2⟩ := hE.es
 have hb : (⟨l.toArray⟩ : ByteArray).size ≤ 1000000000 := by rw [bsize]; omega
 cases h : atoiAll l
 ·rename_i v
  refine (Tryz.strconv_Atoi_ok ⟨l.toArray⟩ (by omega) v h w).mono ?_
  rintro e w' ⟨rfl, hw⟩
  refine ⟨?_, .inl ⟨v, rfl, rfl⟩⟩
  rcases hw with rfl | ⟨t, rfl⟩
  ·exact Below.refl _ _
  ·exact Lib.bytesWorld_below _ _ _
 ·refine (Any.strconv_Atoi_syntax Tryz.laysC172 ⟨l.toArray⟩ (by omega) h es w hes hes2).mono ?_
  rintro e w' ⟨N, rfl, _, _, hB⟩
  exact ⟨hB, .inr ⟨(fun v g => by cases g), _, N, rfl⟩⟩
 ·refine (Any.strconv_Atoi_range Tryz.laysC172 ⟨l.toArray⟩ (by omega) h ev w hev hev2).mono ?_
  rintro e w' ⟨N, rfl, _, _, hB⟩
  exact ⟨hB, .inr ⟨(fun v g => by cases g), _, N, rfl⟩⟩
end Go.Proofs.YtkhlfggnjcbniaaGreatDoor.link
