/- The contracts of link.digits, and of the reference's Digits and Value. -/
import Derived.Test.YtoghjhaagallkaaGreatDoorHexes
namespace Go.Proofs.YtoghjhaagallkaaGreatDoor.link
open Go.ChangeShapes Go.WideShapes Go.ChangeAt Go.RowKit Go.Lib

def digC (c : UInt8) : Bool := decide (48 ≤ c.toNat) && decide (c.toNat ≤ 57)
def digS : List UInt8 := [48, 49, 50, 51, 52, 53, 54, 55, 56, 57]
theorem digS_has (c : UInt8) : digS.contains c = digC c := by
  have : ∀ n : Fin 256, digS.contains (UInt8.ofNat n.1) = digC (UInt8.ofNat n.1) := by decide +kernel
  have h := this ⟨c.toNat, c.toNat_lt⟩
  simpa using h
def digsA : List UInt8 → Bool
  | [] => true
  | c :: l => digC c && digsA l
theorem digsA_all (l : List UInt8) : digsA l = l.all digC := by
  induction l with
  | nil => rfl
  | cons c l ih => rw [digsA, List.all_cons, ih]
def digsB (l : List UInt8) : Bool := !(l == []) && digsA l
theorem digs_trim (l : List UInt8) : digsB l = (!(l == []) && (trimS l digS == [])) := by
  unfold digsB
  congr 1
  rw [Bool.eq_iff_iff, beq_iff_eq, trim_all, digsA_all]
  have : (fun c => digS.contains c) = digC := funext digS_has
  rw [this]

theorem trim_dig (l : List UInt8) (hl : l.length ≤ 1000000000) (w : World) :
    Calls Tryz.prog 50 #[.string ⟨l.toArray⟩, .string ⟨#[48, 49, 50, 51, 52, 53, 54, 55, 56, 57]⟩] w fun e w' => e = .returned (.string ⟨(trimS l digS).toArray⟩) ∧ Below w.heap.size w w' :=
  Any.strings_Trim_laid Tryz.lays160 (by kernel_rfl) ⟨l.toArray⟩ ⟨#[48, 49, 50, 51, 52, 53, 54, 55, 56, 57]⟩ w (by rw [bsize]; omega) (by decide) (ascii_of_all (by decide))

set_option maxHeartbeats 400000 in
theorem digs_any (l : List UInt8) (hl : l.length ≤ 1000000000) (w : World) :
    Calls Tryz.prog 32 #[.string ⟨l.toArray⟩] w fun e w' => e = .returned (.bool (digsB l)) ∧ Below w.heap.size w w' := by
  have ht := trim_dig l hl w
  have hq := digs_trim l
  cases l with
  | nil =>
    clear ht hq
    go_enter Tryz.func32, Tryz.ntmps32
    go_wp2_with fail
    go_ret
    exact ⟨rfl, Below.refl _ _⟩
  | cons c r =>
    have HX : Hid (digsB (c :: r) = (trimS (c :: r) digS == [])) := Lib.hid (by rw [hq]; rfl)
    clear hq
    generalize trimS (c :: r) digS = x at ht HX
    go_enter Tryz.func32, Tryz.ntmps32
    go_wp2_with fail
    refine ht.mono ?_
    rintro e w' ⟨rfl, hB⟩
    clear ht
    cases x with
    | nil =>
      go_wp2_with fail
      go_ret
      exact ⟨ret_bool (by rw [HX.out]; rfl), hB⟩
    | cons a b =>
      go_wp2_with fail
      go_ret
      exact ⟨ret_bool (by rw [HX.out]; rfl), hB⟩

theorem dig_ways (c : UInt8) : (c.toNat < 48 ∧ digC c = false) ∨ (48 ≤ c.toNat ∧ c.toNat ≤ 57 ∧ digC c = true) ∨ (57 < c.toNat ∧ digC c = false) := by
  unfold digC
  by_cases h : c.toNat < 48
  · left; exact ⟨h, by simp; omega⟩
  · by_cases g : c.toNat ≤ 57
    · right; left; exact ⟨by omega, g, by simp; omega⟩
    · right; right; exact ⟨by omega, by simp; omega⟩

set_option maxHeartbeats 800000 in
set_option maxRecDepth 100000 in
theorem rdigs_any (l : List UInt8) (hl : l.length ≤ 1000000000) (w : World) :
    Calls Tryz.prog 44 #[.string ⟨l.toArray⟩] w fun e w' => e = .returned (.bool (digsB l)) ∧ w = w' := by
  obtain ⟨v, hv⟩ : ∃ v, v = digsB l := ⟨_, rfl⟩
  rw [← hv]
  have HV : Hid (v = (!(l == []) && digsA (l.drop 0))) := Lib.hid hv
  clear hv
  go_enter Tryz.func44, Tryz.ntmps44
  go_wp2_with fail
  go_loop [3] (fun s => ∃ k : Nat, s = .int .i64 k ∧ k ≤ l.length ∧ Hid (v = (!(l == []) && digsA (l.drop k)))) (fun s => l.length - (RowKit.intOf s).toNat)
  case atStart => exact ⟨0, rfl, by omega, HV⟩
  case round =>
    obtain ⟨k, rfl, hk, hh⟩ := hrel
    by_cases hlt : k < l.length
    · obtain ⟨c, rest, hd1, hd2, hidx⟩ := byte_at l k hlt
      have hx := hh.out
      rw [hd1, digsA, ← hd2] at hx
      have hlt8 := c.toNat_lt
      rcases dig_ways c with ⟨g1, g⟩ | ⟨g1, g2, g⟩ | ⟨g1, g⟩
      · have HX : Hid (v = false) := Lib.hid (by rw [hx, g]; simp)
        clear hx hd1 hd2 hh g
        go_wp2_with fail
        go_ret
        exact ⟨ret_bool HX.out.symm, rfl⟩
      · have HX : Hid (v = (!(l == []) && digsA (l.drop (k + 1)))) := Lib.hid (by rw [hx, g]; simp)
        clear hx hd1 hd2 hh g
        go_wp2_with fail
        go_round
        case rel => exact ⟨k + 1, by go_num, by omega, HX⟩
        case measure => simp [RowKit.intOf]; omega
      · have HX : Hid (v = false) := Lib.hid (by rw [hx, g]; simp)
        clear hx hd1 hd2 hh g
        go_wp2_with fail
        go_ret
        exact ⟨ret_bool HX.out.symm, rfl⟩
    · have HX : Hid (v = decide (0 < l.length)) := Lib.hid (by
        rw [hh.out, List.drop_eq_nil_of_le (by omega), digsA]
        cases l with
        | nil => rfl
        | cons a b => simp)
      clear hh
      go_wp2_with fail
      go_ret
      exact ⟨ret_bool HX.out.symm, rfl⟩
end Go.Proofs.YtoghjhaagallkaaGreatDoor.link
