/- A part of the proofs: lemmas and contracts. -/
import Derived.Test.YtkhlfggnjcbniaaGreatDoorP7
set_option maxHeartbeats 12800000
set_option maxRecDepth 1000000
namespace Go.Proofs.YtkhlfggnjcbniaaGreatDoor.link
open Go.Lib

def hexOk (c : UInt8) : Bool := decide (0 ≤ hexN c.toNat)
def hexS : List UInt8 := [48, 49, 50, 51, 52, 53, 54, 55, 56, 57, 97, 98, 99, 100, 101, 102, 65, 66, 67, 68, 69, 70]
theorem hexS_has (c : UInt8) : hexS.contains c = hexOk c := by
 have : ∀ n : Fin 256, hexS.contains (UInt8.ofNat n.1) = hexOk (UInt8.ofNat n.1) := by decide +kernel
 have h := this ⟨c.toNat, c.toNat_lt⟩
 simpa using h

theorem dropWhile_nil (p : UInt8 → Bool) (l : List UInt8) : l.dropWhile p = [] ↔ l.all p = true := by
 induction l with
 | nil => simp
 | cons c l ih => rw [List.dropWhile_cons]; cases h : p c <;> simp [h, ih]

theorem trim_all (l cs : List UInt8) : trimS l cs = [] ↔ l.all (fun c => cs.contains c) = true := by
 unfold trimS trimLeftS trimRightS
 constructor
 ·intro h
  have h1 := (dropWhile_nil _ _).1 h
  rw [List.all_reverse] at h1
  have : ∀ m : List UInt8, (m.dropWhile (fun c => cs.contains c)).all (fun c => cs.contains c) = true → m.all (fun c => cs.contains c) = true := by
   intro m
   induction m with
   | nil => simp
   | cons c m ih =>
    rw [List.dropWhile_cons, List.all_cons]
    cases hc : cs.contains c
    ·simp only [Bool.false_eq_true, if_false, List.all_cons, hc]; exact id
    ·simp only [if_true, Bool.true_and]; exact ih
  have h2 := this _ h1
  rwa [List.all_reverse] at h2
 ·intro h
  have h1 : l.reverse.dropWhile (fun c => cs.contains c) = [] := (dropWhile_nil _ _).2 (by rw [List.all_reverse]; exact h)
  rw [h1]; rfl

def hexesB (l : List UInt8) : Bool := !(l == []) && l.all hexOk
theorem hexes_trim (l : List UInt8) : hexesB l = (!(l == []) && (trimS l hexS == [])) := by
 unfold hexesB
 congr 1
 rw [Bool.eq_iff_iff, beq_iff_eq, trim_all]
 have : (fun c => hexS.contains c) = hexOk := funext hexS_has
 rw [this]

def sets : List (List UInt8) := [[33, 36, 38, 39, 40, 41, 42, 43, 44, 59, 61], [45, 46, 47, 58, 63, 64, 95, 126]]
def okB (c : UInt8) : Bool := decide (128 ≤ c.toNat) || plainB c || amongB sets c
def refSet : List UInt8 := [33, 36, 38, 39, 40, 41, 42, 43, 44, 45, 46, 47, 58, 59, 61, 63, 64, 95, 126]
theorem refSet_has (c : UInt8) : hasB refSet c = amongB sets c := by
 have : ∀ n : Fin 256, hasB refSet (UInt8.ofNat n.1) = amongB sets (UInt8.ofNat n.1) := by decide +kernel
 have h := this ⟨c.toNat, c.toNat_lt⟩
 simpa using h

def hex2 : List UInt8 → Bool
 | a :: b :: _ => hexOk a && hexOk b
 | _ => false
def fineB : List UInt8 → Bool
 | [] => true
 | c :: r => if c = 37 then hex2 r && fineB r else okB c && fineB r

theorem hex_ok (c : UInt8) (h : hexOk c = true) : c ≠ 37 ∧ okB c = true := by
 have : ∀ n : Fin 256, hexOk (UInt8.ofNat n.1) = true → (UInt8.ofNat n.1) ≠ 37 ∧ okB (UInt8.ofNat n.1) = true := by decide +kernel
 have g := this ⟨c.toNat, c.toNat_lt⟩
 simp only [UInt8.ofNat_toNat] at g
 exact g h

theorem fine_hex (a b : UInt8) (r : List UInt8) : (hexOk a && hexOk b && fineB (a :: b :: r)) = (hexOk a && hexOk b && fineB r) := by
 cases ha : hexOk a
 ·simp
 ·cases hb : hexOk b
  ·simp
  ·have h1 := hex_ok a ha
   have h2 := hex_ok b hb
   simp [fineB, h1.1, h1.2, h2.1, h2.2]
theorem fine_cons (c : UInt8) (r : List UInt8) (h : c ≠ 37) : fineB (c :: r) = (okB c && fineB r) := by rw [fineB, if_neg h]
theorem fine_pct (r : List UInt8) : fineB (37 :: r) = (hex2 r && fineB r) := by rw [fineB, if_pos rfl]
theorem fine_pct3 (a b : UInt8) (r : List UInt8) : fineB (37 :: a :: b :: r) = (hexOk a && hexOk b && fineB r) := by
 rw [fine_pct, hex2, fine_hex]

def fineS (l : List UInt8) : Bool := validD l && fineB l
end Go.Proofs.YtkhlfggnjcbniaaGreatDoor.link
namespace Go.Proofs.YtkhlfggnjcbniaaGreatDoor.link
open Go.ChangeShapes Go.WideShapes Go.ChangeAt Go.RowKit Go.Lib

theorem trim_hex (l : List UInt8) (hl : l.length ≤ 1000000000) (w : World) :
  Calls Tryz.prog 95 #[.string ⟨l.toArray⟩, .string ⟨#[48, 49, 50, 51, 52, 53, 54, 55, 56, 57, 97, 98, 99, 100, 101, 102, 65, 66, 67, 68, 69, 70]⟩] w fun e w' => e = .returned (.string ⟨(trimS l hexS).toArray⟩) ∧ Below w.heap.size w w' :=
 Any.strings_Trim_laid Tryz.lays160 (by kernel_rfl) ⟨l.toArray⟩ ⟨#[48, 49, 50, 51, 52, 53, 54, 55, 56, 57, 97, 98, 99, 100, 101, 102, 65, 66, 67, 68, 69, 70]⟩ w (by rw [bsize]; omega) (by decide) (ascii_of_all (by decide))

theorem hexes_any (l : List UInt8) (hl : l.length ≤ 1000000000) (w : World) :
  Calls Tryz.prog 232 #[.string ⟨l.toArray⟩] w fun e w' => e = .returned (.bool (hexesB l)) ∧ Below w.heap.size w w' := by
 have ht := trim_hex l hl w
 have hq := hexes_trim l
 cases l with
 | nil =>
  clear ht hq
  go_enter Tryz.func232, Tryz.ntmps232
  go_wp2_with fail
  go_ret
  exact ⟨rfl, Below.refl _ _⟩
 | cons c r =>
  have HX : Hid (hexesB (c :: r) = (trimS (c :: r) hexS == [])) := Lib.hid (by rw [hq]; rfl)
  clear hq
  generalize trimS (c :: r) hexS = x at ht HX
  go_enter Tryz.func232, Tryz.ntmps232
  go_wp2_with fail
  refine ht.mono ?_
  rintro e w' ⟨rfl, hB⟩
  clear ht
  cases x with
  | nil =>
   go_wp2_with fail
   go_ret
   exact ⟨ret_bool (by rw [HX.out]; rfl), hB⟩
  | cons a b =>
   go_wp2_with fail
   go_ret
   exact ⟨ret_bool (by rw [HX.out]; rfl), hB⟩

def digC (c : UInt8) : Bool := decide (48 ≤ c.toNat) && decide (c.toNat ≤ 57)
def digS : List UInt8 := [48, 49, 50, 51, 52, 53, 54, 55, 56, 57]
theorem digS_has (c : UInt8) : digS.contains c = digC c := by
 have : ∀ n : Fin 256, digS.contains (UInt8.ofNat n.1) = digC (UInt8.ofNat n.1) := by decide +kernel
 have h := this ⟨c.toNat, c.toNat_lt⟩
 simpa using h
def digsA : List UInt8 → Bool
 | [] => true
 | c :: l => digC c && digsA l
theorem digsA_all (l : List UInt8) : digsA l = l.all digC := by
 induction l with
 | nil => rfl
 | cons c l ih => rw [digsA, List.all_cons, ih]
def digsB (l : List UInt8) : Bool := !(l == []) && digsA l
theorem digs_trim (l : List UInt8) : digsB l = (!(l == []) && (trimS l digS == [])) := by
 unfold digsB
 congr 1
 rw [Bool.eq_iff_iff, beq_iff_eq, trim_all, digsA_all]
 have : (fun c => digS.contains c) = digC := funext digS_has
 rw [this]

theorem trim_dig (l : List UInt8) (hl : l.length ≤ 1000000000) (w : World) :
  Calls Tryz.prog 95 #[.string ⟨l.toArray⟩, .string ⟨#[48, 49, 50, 51, 52, 53, 54, 55, 56, 57]⟩] w fun e w' => e = .returned (.string ⟨(trimS l digS).toArray⟩) ∧ Below w.heap.size w w' :=
 Any.strings_Trim_laid Tryz.lays160 (by kernel_rfl) ⟨l.toArray⟩ ⟨#[48, 49, 50, 51, 52, 53, 54, 55, 56, 57]⟩ w (by rw [bsize]; omega) (by decide) (ascii_of_all (by decide))

theorem digs_any (l : List UInt8) (hl : l.length ≤ 1000000000) (w : World) :
  Calls Tryz.prog 237 #[.string ⟨l.toArray⟩] w fun e w' => e = .returned (.bool (digsB l)) ∧ Below w.heap.size w w' := by
 have ht := trim_dig l hl w
 have hq := digs_trim l
 cases l with
 | nil =>
  clear ht hq
  go_enter Tryz.func237, Tryz.ntmps237
  go_wp2_with fail
  go_ret
  exact ⟨rfl, Below.refl _ _⟩
 | cons c r =>
  have HX : Hid (digsB (c :: r) = (trimS (c :: r) digS == [])) := Lib.hid (by rw [hq]; rfl)
  clear hq
  generalize trimS (c :: r) digS = x at ht HX
  go_enter Tryz.func237, Tryz.ntmps237
  go_wp2_with fail
  refine ht.mono ?_
  rintro e w' ⟨rfl, hB⟩
  clear ht
  cases x with
  | nil =>
   go_wp2_with fail
   go_ret
   exact ⟨ret_bool (by rw [HX.out]; rfl), hB⟩
  | cons a b =>
   go_wp2_with fail
   go_ret
   exact ⟨ret_bool (by rw [HX.out]; rfl), hB⟩

theorem dig_ways (c : UInt8) : (c.toNat < 48 ∧ digC c = false) ∨ (48 ≤ c.toNat ∧ c.toNat ≤ 57 ∧ digC c = true) ∨ (57 < c.toNat ∧ digC c = false) := by
 unfold digC
 by_cases h : c.toNat < 48
 ·left; exact ⟨h, by simp; omega⟩
 ·by_cases g : c.toNat ≤ 57
  ·right; left; exact ⟨by omega, g, by simp; omega⟩
  ·right; right; exact ⟨by omega, by simp; omega⟩

theorem rdigs_any (l : List UInt8) (hl : l.length ≤ 1000000000) (w : World) :
  Calls Tryz.prog 114 #[.string ⟨l.toArray⟩] w fun e w' => e = .returned (.bool (digsB l)) ∧ w = w' := by
 obtain ⟨v, hv⟩ : ∃ v, v = digsB l := ⟨_, rfl⟩
 rw [← hv]
 have HV : Hid (v = (!(l == []) && digsA (l.drop 0))) := Lib.hid hv
 clear hv
 go_enter Tryz.func114, Tryz.ntmps114
 go_wp2_with fail
 go_loop [3] (fun s => ∃ k : Nat, s = .int .i64 k ∧ k ≤ l.length ∧ Hid (v = (!(l == []) && digsA (l.drop k)))) (fun s => l.length - (RowKit.intOf s).toNat)
 case atStart => exact ⟨0, rfl, by omega, HV⟩
 case round =>
  obtain ⟨k, rfl, hk, hh⟩ := hrel
  by_cases hlt : k < l.length
  ·obtain ⟨c, rest, hd1, hd2, hidx⟩ := byte_at l k hlt
   have hx := hh.out
   rw [hd1, digsA, ← hd2] at hx
   have hlt8 := c.toNat_lt
   rcases dig_ways c with ⟨g1, g⟩ | ⟨g1, g2, g⟩ | ⟨g1, g⟩
   ·have HX : Hid (v = false) := Lib.hid (by rw [hx, g]; simp)
    clear hx hd1 hd2 hh g
    go_wp2_with fail
    go_ret
    exact ⟨ret_bool HX.out.symm, rfl⟩
   ·have HX : Hid (v = (!(l == []) && digsA (l.drop (k + 1)))) := Lib.hid (by rw [hx, g]; simp)
    clear hx hd1 hd2 hh g
    go_wp2_with fail
    go_round
    case rel => exact ⟨k + 1, by go_num, by omega, HX⟩
    case measure => simp [RowKit.intOf]; omega
   ·have HX : Hid (v = false) := Lib.hid (by rw [hx, g]; simp)
    clear hx hd1 hd2 hh g
    go_wp2_with fail
    go_ret
    exact ⟨ret_bool HX.out.symm, rfl⟩
  ·have HX : Hid (v = decide (0 < l.length)) := Lib.hid (by
    rw [hh.out, List.drop_eq_nil_of_le (by omega), digsA]
    cases l with
    | nil => rfl
    | cons a b => simp)
   clear hh
   go_wp2_with fail
   go_ret
   exact ⟨ret_bool HX.out.symm, rfl⟩

theorem at_two (l : List UInt8) (k : Nat) (a b c : UInt8) (r : List UInt8) (h : l.drop k = c :: a :: b :: r) :
  (∀ h', (⟨l.toArray⟩ : ByteArray)[k + 1]'h' = a) ∧ (∀ h', (⟨l.toArray⟩ : ByteArray)[k + 2]'h' = b) ∧ l.drop (k + 3) = r := by
 have e : ∀ j, l[k + j]? = (c :: a :: b :: r)[j]? := fun j => by rw [← h, List.getElem?_drop]
 refine ⟨fun h' => ?_, fun h' => ?_, ?_⟩
 ·show l[k + 1]'(by rw [← bsize]; exact h') = a
  exact Option.some.inj (by rw [← List.getElem?_eq_getElem, e]; rfl)
 ·show l[k + 2]'(by rw [← bsize]; exact h') = b
  exact Option.some.inj (by rw [← List.getElem?_eq_getElem, e]; rfl)
 ·rw [← List.drop_drop, h]; rfl

theorem hexOk_lt (c : UInt8) : hexOk c = !decide (hexN c.toNat < 0) := by
 unfold hexOk
 generalize hexN c.toNat = n
 by_cases h : 0 ≤ n
 ·rw [decide_eq_true h, decide_eq_false (by omega)]; rfl
 ·rw [decide_eq_false h, decide_eq_true (by omega)]; rfl

theorem rfine_any (l : List UInt8) (hl : l.length ≤ 1000000000) (w : World) :
  Calls Tryz.prog 195 #[.string ⟨l.toArray⟩] w fun e w' => e = .returned (.bool (fineS l)) ∧ w = w' := by
 have hv := Go.Proofs.YtkhlfggnjcbniaaGreatDoor.utf.rvalid_any l hl w
 obtain ⟨v, hvv⟩ : ∃ v, v = fineS l := ⟨_, rfl⟩
 rw [← hvv]
 unfold fineS at hvv
 cases hd : validD l
 ·rw [hd] at hv hvv
  have H := Lib.hid hvv
  clear hvv hd
  go_enter Tryz.func195, Tryz.ntmps195
  go_wp2_with fail
  refine hv.mono ?_
  rintro e w' ⟨rfl, rfl⟩
  go_wp2_with fail
  go_ret
  exact ⟨ret_bool H.out.symm, rfl⟩
 ·rw [hd] at hv hvv
  have H : Hid (v = fineB l) := Lib.hid hvv
  clear hvv hd
  go_enter Tryz.func195, Tryz.ntmps195
  go_wp2_with fail
  refine hv.mono ?_
  rintro e w' ⟨rfl, rfl⟩
  clear hv
  go_wp2_with fail
  go_loop [3] (fun s => ∃ k : Nat, s = .int .i64 k ∧ k ≤ l.length ∧ Hid (v = fineB (l.drop k))) (fun s => l.length - (RowKit.intOf s).toNat)
  case atStart => exact ⟨0, rfl, by omega, H⟩
  case round =>
   obtain ⟨k, rfl, hk, hh⟩ := hrel
   by_cases hlt : k < l.length
   ·obtain ⟨c, rest, hd1, hd2, hidx⟩ := byte_at l k hlt
    have hx := hh.out
    rw [hd1] at hx
    have hrl : rest.length = l.length - (k + 1) := by rw [← hd2, List.length_drop]
    by_cases h37 : c = 37
    ·subst h37
     by_cases h2 : k + 2 < l.length
     ·obtain ⟨a, rest1, rfl⟩ : ∃ a r, rest = a :: r := by
       cases rest with
       | nil => simp at hrl; omega
       | cons a r => exact ⟨a, r, rfl⟩
      obtain ⟨b, r, rfl⟩ : ∃ a r, rest1 = a :: r := by
       cases rest1 with
       | nil => simp at hrl; omega
       | cons a r => exact ⟨a, r, rfl⟩
      obtain ⟨i1, i2, h3⟩ := at_two l k a b 37 r hd1
      rw [fine_pct3, ← h3, hexOk_lt, hexOk_lt] at hx
      have ca := digit_any a w
      have cb := digit_any b w
      generalize hexN a.toNat = na at *
      generalize hexN b.toNat = nb at *
      by_cases ha : na < 0
      ·have HX : Hid (v = false) := Lib.hid (by rw [hx]; simp [ha])
       clear hx hd1 hd2 hh hrl h3
       go_wp2_with fail
       refine ca.mono ?_
       rintro e w' ⟨rfl, rfl⟩
       go_wp2_with fail
       go_ret
       exact ⟨ret_bool HX.out.symm, rfl⟩
      ·by_cases hb : nb < 0
       ·have HX : Hid (v = false) := Lib.hid (by rw [hx]; simp [hb])
        clear hx hd1 hd2 hh hrl h3
        go_wp2_with fail
        refine ca.mono ?_
        rintro e w' ⟨rfl, rfl⟩
        go_wp2_with fail
        refine cb.mono ?_
        rintro e w' ⟨rfl, rfl⟩
        go_wp2_with fail
        go_ret
        exact ⟨ret_bool HX.out.symm, rfl⟩
       ·have HX : Hid (v = fineB (l.drop (k + 3))) := Lib.hid (by rw [hx]; simp [ha, hb])
        clear hx hd1 hd2 hh hrl h3
        go_wp2_with fail
        refine ca.mono ?_
        rintro e w' ⟨rfl, rfl⟩
        go_wp2_with fail
        refine cb.mono ?_
        rintro e w' ⟨rfl, rfl⟩
        go_wp2_with fail
        go_round
        case rel => exact ⟨k + 3, by go_num, by omega, HX⟩
        case measure => simp [RowKit.intOf]; omega
     ·have HX : Hid (v = false) := Lib.hid (by
       rw [hx, fine_pct]
       match rest, hrl with
       | [], _ => rfl
       | [_], _ => rfl
       | a :: b :: r, hrl => simp at hrl; omega)
      clear hx hd1 hd2 hh hrl
      go_wp2_with fail
      go_ret
      exact ⟨ret_bool HX.out.symm, rfl⟩
    ·have h37b : ((c.toNat : Int) == 37) = false := by
      simp only [beq_eq_false_iff_ne, ne_eq]
      intro g
      exact h37 (UInt8.toNat_inj.1 (by simp; omega))
     rw [fine_cons c rest h37] at hx
     have hlt8 := c.toNat_lt
     by_cases h128 : 128 ≤ c.toNat
     ·have HX : Hid (v = fineB (l.drop (k + 1))) := Lib.hid (by rw [hx, hd2]; simp [okB, h128])
      clear hx hd1 hd2 hh hrl
      go_wp2_with fail
      go_round
      case rel => exact ⟨k + 1, by go_num, by omega, HX⟩
      case measure => simp [RowKit.intOf]; omega
     ·have hp := rplain_any c w
      have hin := in_any c refSet (by decide) w
      rw [refSet_has] at hin
      cases hpc : plainB c
      ·have HX : Hid (v = (amongB sets c && fineB (l.drop (k + 1)))) := Lib.hid (by rw [hx, hd2]; simp [okB, hpc, h128])
       rw [hpc] at hp
       clear hx hd1 hd2 hh hrl hpc
       generalize amongB sets c = q at *
       cases q
       ·have HY : Hid (v = false) := Lib.hid (by rw [HX.out]; rfl)
        go_wp2_with fail
        refine hp.mono ?_
        rintro e w' ⟨rfl, rfl⟩
        go_wp2_with fail
        refine hin.mono ?_
        rintro e w' ⟨rfl, rfl⟩
        go_wp2_with fail
        go_ret
        exact ⟨ret_bool HY.out.symm, rfl⟩
       ·have HY : Hid (v = fineB (l.drop (k + 1))) := Lib.hid (by rw [HX.out]; rfl)
        go_wp2_with fail
        refine hp.mono ?_
        rintro e w' ⟨rfl, rfl⟩
        go_wp2_with fail
        refine hin.mono ?_
        rintro e w' ⟨rfl, rfl⟩
        go_wp2_with fail
        go_round
        case rel => exact ⟨k + 1, by go_num, by omega, HY⟩
        case measure => simp [RowKit.intOf]; omega
      ·have HX : Hid (v = fineB (l.drop (k + 1))) := Lib.hid (by rw [hx, hd2]; simp [okB, hpc])
       rw [hpc] at hp
       clear hx hd1 hd2 hh hrl hpc
       go_wp2_with fail
       refine hp.mono ?_
       rintro e w' ⟨rfl, rfl⟩
       go_wp2_with fail
       go_round
       case rel => exact ⟨k + 1, by go_num, by omega, HX⟩
       case measure => simp [RowKit.intOf]; omega
   ·have HX : Hid (v = true) := Lib.hid (by rw [hh.out, List.drop_eq_nil_of_le (by omega)]; rfl)
    go_wp2_with fail
    go_ret
    exact ⟨ret_bool HX.out.symm, rfl⟩

def valN : Nat → List UInt8 → Nat
 | n, [] => n
 | n, c :: r => valN (if n < 1000000 then 10 * n + (c.toNat - 48) else n) r

theorem rvalue_any (l : List UInt8) (hl : l.length ≤ 1000000000) (hd : digsA l = true) (w : World) :
  Calls Tryz.prog 115 #[.string ⟨l.toArray⟩] w fun e w' => e = .returned (.int .i64 (valN 0 l)) ∧ w = w' := by
 obtain ⟨v, hv⟩ : ∃ v, v = valN 0 l := ⟨_, rfl⟩
 rw [← hv]
 have HV : Hid (v = valN 0 (l.drop 0) ∧ digsA (l.drop 0) = true) := Lib.hid ⟨hv, hd⟩
 clear hv hd
 go_enter Tryz.func115, Tryz.ntmps115
 go_wp2_with fail
 go_loop [3, 4] (fun x s => ∃ k n : Nat, x = .int .i64 n ∧ s = .int .i64 k ∧ k ≤ l.length ∧ Hid (n < 20000000) ∧ Hid (v = valN n (l.drop k) ∧ digsA (l.drop k) = true)) (fun _ s => l.length - (RowKit.intOf s).toNat)
 case atStart => exact ⟨0, 0, rfl, rfl, by omega, Lib.hid (by decide), HV⟩
 case round =>
  obtain ⟨k, n, rfl, rfl, hk, hn0, hh⟩ := hrel
  by_cases hlt : k < l.length
  ·obtain ⟨c, rest, hd1, hd2, hidx⟩ := byte_at l k hlt
   have hx := hh.out
   rw [hd1, valN, digsA, ← hd2, Bool.and_eq_true] at hx
   have hlt8 := c.toNat_lt
   obtain ⟨hx1, hx2, hx3⟩ := hx
   have hc : 48 ≤ c.toNat ∧ c.toNat ≤ 57 := by
    unfold digC at hx2
    simpa using hx2
   obtain ⟨c1, c2⟩ := hc
   clear hx2
   by_cases hm : n < 1000000
   ·rw [if_pos hm] at hx1
    have HX := Lib.hid (And.intro hx1 hx3)
    have hmi : (n : Int) < 1000000 := by omega
    have HM := Lib.hid hm
    clear hx1 hx3 hd1 hd2 hh hm
    go_wp2_with fail
    go_round
    case rel =>
     have hm := HM.out
     refine ⟨k + 1, 10 * n + (c.toNat - 48), ?_, by go_num, by omega, Lib.hid (by omega), HX⟩
     go_num
    case measure => simp [RowKit.intOf]; omega
   ·rw [if_neg hm] at hx1
    have HX := Lib.hid (And.intro hx1 hx3)
    have hmi : ¬ (n : Int) < 1000000 := by omega
    clear hx1 hx3 hd1 hd2 hh hm
    go_wp2_with fail
    go_round
    case rel => exact ⟨k + 1, n, by go_num, by go_num, by omega, hn0, HX⟩
    case measure => simp [RowKit.intOf]; omega
  ·have HX : Hid (v = n) := Lib.hid (by rw [hh.out.1, List.drop_eq_nil_of_le (by omega)]; rfl)
   clear hh
   go_wp2_with fail
   go_ret
   exact ⟨ret_int (by rw [HX.out]), rfl⟩

@[irreducible] def dg (n : Nat) (c : UInt8) : Nat := 10 * n + (c.toNat - 48)
theorem dg_eq (n : Nat) (c : UInt8) : dg n c = 10 * n + (c.toNat - 48) := by unfold dg; rfl
def decV : Nat → List UInt8 → Nat
 | n, [] => n
 | n, c :: r => decV (dg n c) r
theorem decV_cons (n : Nat) (c : UInt8) (r : List UInt8) : decV n (c :: r) = decV (10 * n + (c.toNat - 48)) r := by rw [← dg_eq]; rfl

theorem decV_ge (l : List UInt8) : ∀ n, n ≤ decV n l := by
 induction l with
 | nil => intro n; exact Nat.le_refl _
 | cons c r ih => intro n; have := ih (10 * n + (c.toNat - 48)); rw [decV_cons]; omega

theorem valN_ge (l : List UInt8) : ∀ n, n ≤ valN n l := by
 induction l with
 | nil => intro n; exact Nat.le_refl _
 | cons c r ih =>
  intro n
  rw [valN]
  split
  ·have := ih (10 * n + (c.toNat - 48)); omega
  ·exact ih n

theorem valN_dec (B : Nat) (hB : B < 1000000) (l : List UInt8) : ∀ n, (valN n l ≤ B ↔ decV n l ≤ B) := by
 induction l with
 | nil => intro n; exact Iff.rfl
 | cons c r ih =>
  intro n
  rw [valN, decV_cons]
  by_cases h : n < 1000000
  ·rw [if_pos h]; exact ih _
  ·rw [if_neg h]
   have h1 := valN_ge r n
   have h2 := decV_ge r (10 * n + (c.toNat - 48))
   omega

theorem parse_dec (l : List UInt8) : ∀ n, digsA l = true → (decV n l < 18446744073709551616 → parseUint10 n l = .ok (decV n l)) ∧ (18446744073709551616 ≤ decV n l → n < 18446744073709551616 → parseUint10 n l = .range) := by
 induction l with
 | nil => intro n _; exact ⟨fun _ => rfl, fun h g => absurd h (by unfold decV; omega)⟩
 | cons c r ih =>
  intro n hd
  rw [digsA, Bool.and_eq_true] at hd
  obtain ⟨h1, h2⟩ := hd
  have hc : 48 ≤ c.toNat ∧ c.toNat ≤ 57 := by unfold digC at h1; simpa using h1
  have hg := decV_ge r (10 * n + (c.toNat - 48))
  have hcm : n * 10 + (c.toNat - 48) = 10 * n + (c.toNat - 48) := by omega
  rw [parseUint10, if_pos hc, decV_cons, hcm]
  obtain ⟨i1, i2⟩ := ih (10 * n + (c.toNat - 48)) h2
  constructor
  ·intro h
   rw [if_neg (by omega), if_neg (by omega)]
   exact i1 h
  ·intro h hn
   by_cases g1 : 1844674407370955162 ≤ n
   ·rw [if_pos g1]
   ·rw [if_neg g1]
    by_cases g2 : 18446744073709551616 ≤ 10 * n + (c.toNat - 48)
    ·rw [if_pos g2]
    ·rw [if_neg g2]
     exact i2 h (by omega)

theorem atoi_dec (l : List UInt8) (hd : digsB l = true) : (decV 0 l < 9223372036854775808 ∧ atoiAll l = .ok (decV 0 l : Int)) ∨ (9223372036854775808 ≤ decV 0 l ∧ ∀ v, atoiAll l ≠ .ok v) := by
 unfold digsB at hd
 rw [Bool.and_eq_true] at hd
 obtain ⟨h1, h2⟩ := hd
 cases l with
 | nil => cases h1
 | cons c r =>
  have hp := parse_dec (c :: r) 0 h2
  have hc : 48 ≤ c.toNat ∧ c.toNat ≤ 57 := by
   rw [digsA, Bool.and_eq_true] at h2
   have := h2.1
   unfold digC at this; simpa using this
  generalize decV 0 (c :: r) = n at *
  have e : atoiAll (c :: r) = match parseMag (c :: r) with
   | .ok u => if 9223372036854775808 ≤ u then .range else .ok (u : Int)
   | .range => .range
   | _ => atoiAll [] := by
   unfold atoiAll
   simp only []
   rw [if_neg (by omega)]
   have h45 : ¬ c.toNat = 45 := by omega
   simp only [h45, not_false_eq_true, true_and, false_and, if_false]
   cases parseMag (c :: r) <;> rfl
  have em : parseMag (c :: r) = parseUint10 0 (c :: r) := by unfold parseMag; rw [if_neg (by simp)]
  rw [em] at e
  by_cases g : n < 18446744073709551616
  ·rw [hp.1 g] at e
   simp only [] at e
   by_cases g2 : n < 9223372036854775808
   ·left; rw [if_neg (by omega)] at e; exact ⟨g2, e⟩
   ·right; rw [if_pos (by omega)] at e; exact ⟨by omega, fun v h => by rw [e] at h; cases h⟩
  ·right
   rw [hp.2 (by omega) (by omega)] at e
   exact ⟨by omega, fun v h => by rw [e] at h; cases h⟩

theorem atoi_bound (l : List UInt8) (hd : digsB l = true) (B : Nat) (hB : B < 1000000) :
  (∃ v : Int, atoiAll l = .ok v ∧ v ≤ 9223372036854775807 ∧ ((B : Int) < v ↔ B < valN 0 l)) ∨ ((∀ v, atoiAll l ≠ .ok v) ∧ B < valN 0 l) := by
 have hv := valN_dec B hB l 0
 rcases atoi_dec l hd with ⟨h1, h2⟩ | ⟨h1, h2⟩
 ·left; exact ⟨_, h2, by omega, by omega⟩
 ·right; exact ⟨h2, by omega⟩

theorem decV_small (l : List UInt8) : ∀ n, digsA l = true → decV n l < (n + 1) * 10 ^ l.length := by
 induction l with
 | nil => intro n _; simp [decV]
 | cons c r ih =>
  intro n hd
  rw [digsA, Bool.and_eq_true] at hd
  have hc : 48 ≤ c.toNat ∧ c.toNat ≤ 57 := by have := hd.1; unfold digC at this; simpa using this
  have h := ih (10 * n + (c.toNat - 48)) hd.2
  rw [decV_cons, List.length_cons, Nat.pow_succ]
  have h2 : (10 * n + (c.toNat - 48) + 1) * 10 ^ r.length ≤ (n + 1) * 10 * 10 ^ r.length := Nat.mul_le_mul_right _ (by omega)
  have h3 : (n + 1) * 10 * 10 ^ r.length = (n + 1) * (10 ^ r.length * 10) := by rw [Nat.mul_assoc, Nat.mul_comm 10]
  omega

theorem atoi_any (l : List UInt8) (hl : l.length ≤ 1000000000) (w : World) (hE : GE w) :
  Calls Tryz.prog 96 #[.string ⟨l.toArray⟩] w fun e w' => Below w.heap.size w w' ∧
   ((∃ v, atoiAll l = .ok v ∧ e = .returned (.tuple #[.int .i64 v, .nilIface])) ∨ ((∀ v, atoiAll l ≠ .ok v) ∧ ∃ n N, e = .returned (.tuple #[.int .i64 n, .iface 194 (.pointer (some ⟨N, 0, none⟩))]))) := by
 obtain ⟨ev, hev, hev2⟩ := hE.er
 obtain ⟨es, hes, hes2⟩ := hE.es
 have hb : (⟨l.toArray⟩ : ByteArray).size ≤ 1000000000 := by rw [bsize]; omega
 cases h : atoiAll l
 ·rename_i v
  refine (Tryz.strconv_Atoi_ok ⟨l.toArray⟩ (by omega) v h w).mono ?_
  rintro e w' ⟨rfl, hw⟩
  refine ⟨?_, .inl ⟨v, rfl, rfl⟩⟩
  rcases hw with rfl | ⟨t, rfl⟩
  ·exact Below.refl _ _
  ·exact Lib.bytesWorld_below _ _ _
 ·refine (Any.strconv_Atoi_syntax Tryz.laysC172 ⟨l.toArray⟩ (by omega) h es w hes hes2).mono ?_
  rintro e w' ⟨N, rfl, _, _, hB⟩
  exact ⟨hB, .inr ⟨(fun v g => by cases g), _, N, rfl⟩⟩
 ·refine (Any.strconv_Atoi_range Tryz.laysC172 ⟨l.toArray⟩ (by omega) h ev w hev hev2).mono ?_
  rintro e w' ⟨N, rfl, _, _, hB⟩
  exact ⟨hB, .inr ⟨(fun v g => by cases g), _, N, rfl⟩⟩

theorem take2 (l : List UInt8) (k : Nat) (a b c : UInt8) (r : List UInt8) (h : l.drop k = c :: a :: b :: r) : (l.drop (k + 1)).take 2 = [a, b] := by
 have h1 : l.drop (k + 1) = a :: b :: r := by
  have := congrArg List.tail h
  rwa [List.tail_drop] at this
 rw [h1]; rfl

theorem hexes2 (a b : UInt8) : hexesB [a, b] = (hexOk a && hexOk b) := by simp [hexesB]

theorem among_fresh (c : UInt8) (w : World) (t : TypeId) :
  Calls Tryz.prog 229 #[.int .u8 c.toNat, .slice (some ⟨w.heap.size, 0, none⟩) 2 2] (w.alloc (.cells #[.string ⟨#[33, 36, 38, 39, 40, 41, 42, 43, 44, 59, 61]⟩, .string ⟨#[45, 46, 47, 58, 63, 64, 95, 126]⟩] t)) fun e w' => e = .returned (.bool (amongB sets c)) ∧ (w.alloc (.cells #[.string ⟨#[33, 36, 38, 39, 40, 41, 42, 43, 44, 59, 61]⟩, .string ⟨#[45, 46, 47, 58, 63, 64, 95, 126]⟩] t)) = w' :=
 among_any c sets w.heap.size 2 _ (by decide) (by
  intro j hj
  have hj2 : j < 2 := hj
  match j, hj2 with
  | 0, _ => simp [sets]
  | 1, _ => simp [sets]) (by decide)

theorem fine_any (l : List UInt8) (hl : l.length ≤ 1000000000) (w : World) (hU : GU w) :
  Calls Tryz.prog 158 #[.string ⟨l.toArray⟩] w fun e w' => e = .returned (.bool (fineS l)) ∧ Below w.heap.size w w' := by
 have hv := Go.Proofs.YtkhlfggnjcbniaaGreatDoor.utf.tvalid_any l hl w hU
 obtain ⟨v, hvv⟩ : ∃ v, v = fineS l := ⟨_, rfl⟩
 rw [← hvv]
 unfold fineS at hvv
 cases hd : validD l
 ·rw [hd] at hv hvv
  have H := Lib.hid hvv
  clear hvv hd
  go_enter Tryz.func158, Tryz.ntmps158
  go_wp2_with fail
  refine hv.mono ?_
  rintro e w' ⟨rfl, hB⟩
  go_wp2_with fail
  go_ret
  exact ⟨ret_bool H.out.symm, hB⟩
 ·rw [hd] at hv hvv
  have H : Hid (v = fineB l) := Lib.hid hvv
  clear hvv hd
  go_enter Tryz.func158, Tryz.ntmps158
  go_wp2_with fail
  refine hv.mono ?_
  rintro e w' ⟨rfl, hB⟩
  go_wp2_with fail
  go_loopw [3] (fun s wr => ∃ k : Nat, s = .int .i64 k ∧ k ≤ l.length ∧ Hid (v = fineB (l.drop k)) ∧ Below w.heap.size w wr) (fun s _ => l.length - (RowKit.intOf s).toNat)
  case atStart => exact ⟨0, rfl, by omega, H, hB⟩
  case round =>
   obtain ⟨k, rfl, hk, hh, hb⟩ := hrel
   by_cases hlt : k < l.length
   ·obtain ⟨c, rest, hd1, hd2, hidx⟩ := byte_at l k hlt
    have hx := hh.out
    rw [hd1] at hx
    have hrl : rest.length = l.length - (k + 1) := by rw [← hd2, List.length_drop]
    by_cases h37 : c = 37
    ·subst h37
     rw [fine_pct] at hx
     by_cases h2 : k + 2 < l.length
     ·obtain ⟨a, rest1, rfl⟩ : ∃ a r, rest = a :: r := by
       cases rest with
       | nil => simp at hrl; omega
       | cons a r => exact ⟨a, r, rfl⟩
      obtain ⟨b, r, rfl⟩ : ∃ a r, rest1 = a :: r := by
       cases rest1 with
       | nil => simp at hrl; omega
       | cons a r => exact ⟨a, r, rfl⟩
      have hsl := take2 l k a b 37 r hd1
      have hcall : Calls Tryz.prog 232 #[.string ⟨((l.drop (k + 1)).take 2).toArray⟩] wr fun e w' => e = .returned (.bool (hexOk a && hexOk b)) ∧ Below wr.heap.size wr w' := by
       rw [hsl, ← hexes2]; exact hexes_any [a, b] (by simp) wr
      rw [hex2, ← hd2] at hx
      generalize (hexOk a && hexOk b) = q at *
      have HS := Lib.hid hd1
      have HX := Lib.hid hx
      clear hx hd1 hd2 hh hrl
      clear hsl
      go_wp2_with fail
      refine hcall.mono ?_
      rintro e w2 ⟨rfl, hb2⟩
      clear hcall
      have hB2 := below_trans hb hb2
      cases q
      ·have HY : Hid (v = false) := Lib.hid (by rw [HX.out]; rfl)
       go_wp2_with fail
       go_ret
       exact ⟨ret_bool HY.out.symm, hB2⟩
      ·have HY : Hid (v = fineB (l.drop (k + 1))) := Lib.hid (by rw [HX.out]; rfl)
       go_wp2_with fail
       go_roundw
       case rel => exact ⟨k + 1, by go_num, by omega, HY, hB2⟩
       case measure => simp [RowKit.intOf]; omega
     ·have HX : Hid (v = false) := Lib.hid (by
       rw [hx]
       match rest, hrl with
       | [], _ => rfl
       | [_], _ => rfl
       | a :: b :: r, hrl => simp at hrl; omega)
      clear hx hd1 hd2 hh hrl
      go_wp2_with fail
      go_ret
      exact ⟨ret_bool HX.out.symm, hb⟩
    ·have h37b : ((c.toNat : Int) == 37) = false := by
      simp only [beq_eq_false_iff_ne, ne_eq]
      intro g
      exact h37 (UInt8.toNat_inj.1 (by simp; omega))
     rw [fine_cons c rest h37] at hx
     have hlt8 := c.toNat_lt
     by_cases h128 : 128 ≤ c.toNat
     ·have HX : Hid (v = fineB (l.drop (k + 1))) := Lib.hid (by rw [hx, hd2]; simp [okB, h128])
      clear hx hd1 hd2 hh hrl
      go_wp2_with fail
      go_roundw
      case rel => exact ⟨k + 1, by go_num, by omega, HX, hb⟩
      case measure => simp [RowKit.intOf]; omega
     ·have hp := plain_any c wr
      cases hpc : plainB c
      ·have HX : Hid (v = (amongB sets c && fineB (l.drop (k + 1)))) := Lib.hid (by rw [hx, hd2]; simp [okB, hpc, h128])
       rw [hpc] at hp
       clear hx hd1 hd2 hh hrl hpc
       go_wp2_with fail
       refine hp.mono ?_
       rintro e w' ⟨rfl, rfl⟩
       go_wp2_with fail
       refine (among_fresh c wr _).mono ?_
       rintro e w' ⟨rfl, rfl⟩
       have hB2 := hb.alloc (by simpa using hb.size) (.cells #[.string ⟨#[33, 36, 38, 39, 40, 41, 42, 43, 44, 59, 61]⟩, .string ⟨#[45, 46, 47, 58, 63, 64, 95, 126]⟩] 9)
       generalize amongB sets c = q at *
       cases q
       ·have HY : Hid (v = false) := Lib.hid (by rw [HX.out]; rfl)
        go_wp2_with fail
        go_ret
        exact ⟨ret_bool HY.out.symm, by assumption⟩
       ·have HY : Hid (v = fineB (l.drop (k + 1))) := Lib.hid (by rw [HX.out]; rfl)
        go_wp2_with fail
        go_roundw
        case rel => exact ⟨k + 1, by go_num, by omega, HY, by assumption⟩
        case measure => simp [RowKit.intOf]; omega
      ·have HX : Hid (v = fineB (l.drop (k + 1))) := Lib.hid (by rw [hx, hd2]; simp [okB, hpc])
       rw [hpc] at hp
       clear hx hd1 hd2 hh hrl hpc
       go_wp2_with fail
       refine hp.mono ?_
       rintro e w' ⟨rfl, rfl⟩
       go_wp2_with fail
       go_roundw
       case rel => exact ⟨k + 1, by go_num, by omega, HX, hb⟩
       case measure => simp [RowKit.intOf]; omega
   ·have HX : Hid (v = true) := Lib.hid (by rw [hh.out, List.drop_eq_nil_of_le (by omega)]; rfl)
    go_wp2_with fail
    go_ret
    exact ⟨ret_bool HX.out.symm, hb⟩
end Go.Proofs.YtkhlfggnjcbniaaGreatDoor.link
