/- The contracts of the small functions on bytes: link.plain, link.among, and the reference's Plain, In, Digit. -/
import Derived.Test.YtoghjhaagallkaaGreatDoorWorld
import Derived.Test.YtoghjhaagallkaaGreatDoorShelf
import Derived.Lib.IndexAny
import Derived.Deep.DeepCutAuto
import Derived.Outline
namespace Go.Proofs.YtoghjhaagallkaaGreatDoor.link
open Go.ChangeShapes Go.WideShapes Go.ChangeAt Go.RowKit Go.Lib

def plainN (c : Nat) : Bool := (decide (97 ≤ c) && decide (c ≤ 122)) || (decide (65 ≤ c) && decide (c ≤ 90)) || (decide (48 ≤ c) && decide (c ≤ 57))
def plainB (c : UInt8) : Bool := plainN c.toNat
def hexN (c : Nat) : Int := if 48 ≤ c ∧ c ≤ 57 then (c : Int) - 48 else if 65 ≤ c ∧ c ≤ 70 then (c : Int) - 55 else if 97 ≤ c ∧ c ≤ 102 then (c : Int) - 87 else -1

theorem ret_bool {a b : Bool} (h : a = b) : Ending.returned (.bool a) = .returned (.bool b) := by rw [h]
theorem ret_int {k : IntKind} {a b : Int} (h : a = b) : Ending.returned (.int k a) = .returned (.int k b) := by rw [h]

theorem byte_at (l : List UInt8) (i : Nat) (h : i < l.length) : ∃ c rest, l.drop i = c :: rest ∧ l.drop (i + 1) = rest ∧ ∀ h', (⟨l.toArray⟩ : ByteArray)[i]'h' = c :=
  ⟨l[i], l.drop (i + 1), List.drop_eq_getElem_cons h, rfl, fun _ => rfl⟩

theorem byteq (c d : UInt8) (n : Int) (h : (d.toNat : Int) = n) : ((c.toNat : Int) == n) = (c == d) := by
  subst h
  rw [Bool.eq_iff_iff]
  simp only [beq_iff_eq]
  constructor
  · intro h; exact UInt8.toNat_inj.1 (by omega)
  · rintro rfl; rfl

theorem plain_ways (c : Nat) : (c < 48 ∧ plainN c = false) ∨ (48 ≤ c ∧ c ≤ 57 ∧ plainN c = true) ∨ (57 < c ∧ c < 65 ∧ plainN c = false) ∨ (65 ≤ c ∧ c ≤ 90 ∧ plainN c = true) ∨ (90 < c ∧ c < 97 ∧ plainN c = false) ∨ (97 ≤ c ∧ c ≤ 122 ∧ plainN c = true) ∨ (122 < c ∧ plainN c = false) := by
  unfold plainN
  by_cases a1 : c < 48
  · left; exact ⟨a1, by simp; omega⟩
  by_cases a2 : c ≤ 57
  · right; left; exact ⟨by omega, a2, by simp; omega⟩
  by_cases a3 : c < 65
  · right; right; left; exact ⟨by omega, a3, by simp; omega⟩
  by_cases a4 : c ≤ 90
  · right; right; right; left; exact ⟨by omega, a4, by simp; omega⟩
  by_cases a5 : c < 97
  · right; right; right; right; left; exact ⟨by omega, a5, by simp; omega⟩
  by_cases a6 : c ≤ 122
  · right; right; right; right; right; left; exact ⟨by omega, a6, by simp; omega⟩
  · right; right; right; right; right; right; exact ⟨by omega, by simp; omega⟩

set_option maxHeartbeats 800000 in
theorem plain_any (c : UInt8) (w : World) :
    Calls Tryz.prog 21 #[.int .u8 c.toNat] w fun e w' => e = .returned (.bool (plainB c)) ∧ w = w' := by
  have hw := plain_ways c.toNat
  unfold plainB
  have hc := c.toNat_lt
  generalize c.toNat = n at *
  rcases hw with ⟨h1, h⟩ | ⟨h1, h2, h⟩ | ⟨h1, h2, h⟩ | ⟨h1, h2, h⟩ | ⟨h1, h2, h⟩ | ⟨h1, h2, h⟩ | ⟨h1, h⟩
  all_goals
    have H := Lib.hid h
    clear h
    go_enter Tryz.func21, Tryz.ntmps21
    go_wp2_with fail
    go_ret
    exact ⟨ret_bool (Eq.trans (by first | rfl | (simp; omega)) H.out.symm), rfl⟩

set_option maxHeartbeats 800000 in
theorem rplain_any (c : UInt8) (w : World) :
    Calls Tryz.prog 38 #[.int .u8 c.toNat] w fun e w' => e = .returned (.bool (plainB c)) ∧ w = w' := by
  have hw := plain_ways c.toNat
  unfold plainB
  have hc := c.toNat_lt
  generalize c.toNat = n at *
  rcases hw with ⟨h1, h⟩ | ⟨h1, h2, h⟩ | ⟨h1, h2, h⟩ | ⟨h1, h2, h⟩ | ⟨h1, h2, h⟩ | ⟨h1, h2, h⟩ | ⟨h1, h⟩
  all_goals
    have H := Lib.hid h
    clear h
    go_enter Tryz.func38, Tryz.ntmps38
    go_wp2_with fail
    go_ret
    exact ⟨ret_bool (Eq.trans (by first | rfl | (simp; omega)) H.out.symm), rfl⟩

/-- does a byte stand in a text? -/
def hasB : List UInt8 → UInt8 → Bool
  | [], _ => false
  | b :: l, c => (b == c) || hasB l c
theorem hasB_contains (l : List UInt8) (c : UInt8) : hasB l c = l.contains c := by
  induction l with
  | nil => rfl
  | cons b l ih =>
    rw [hasB, ih, List.contains_cons]
    congr 1
    rw [Bool.eq_iff_iff]; simp; exact eq_comm

set_option maxHeartbeats 800000 in
theorem in_any (c : UInt8) (l : List UInt8) (hl : l.length ≤ 1000000000) (w : World) :
    Calls Tryz.prog 39 #[.int .u8 c.toNat, .string ⟨l.toArray⟩] w fun e w' => e = .returned (.bool (hasB l c)) ∧ w = w' := by
  obtain ⟨v, hv⟩ : ∃ v, v = hasB l c := ⟨_, rfl⟩
  rw [← hv]
  have HV := Lib.hid hv
  clear hv
  go_enter Tryz.func39, Tryz.ntmps39
  go_wp2_with fail
  go_loop [5] (fun s => ∃ k : Nat, s = .int .i64 k ∧ k ≤ l.length ∧ Hid (v = hasB (l.drop k) c)) (fun s => l.length - (RowKit.intOf s).toNat)
  case atStart => exact ⟨0, rfl, by omega, HV⟩
  case round =>
    obtain ⟨k, rfl, hk, hh⟩ := hrel
    by_cases hlt : k < l.length
    · obtain ⟨b, rest, h1, h2, h3⟩ := byte_at l k hlt
      have hx := hh.out
      rw [h1, hasB, ← h2] at hx
      cases hb : (b == c) with
      | true =>
        have t1 : ((b.toNat : Int) == (c.toNat : Int)) = true := by rw [byteq b c _ rfl]; exact hb
        rw [hb, Bool.true_or] at hx
        have H := Lib.hid hx
        clear hx hh h1 h2 hb
        go_wp2_with fail
        go_ret
        exact ⟨ret_bool H.out.symm, rfl⟩
      | false =>
        have t1 : ((b.toNat : Int) == (c.toNat : Int)) = false := by rw [byteq b c _ rfl]; exact hb
        rw [hb, Bool.false_or] at hx
        have H := Lib.hid hx
        clear hx hh h1 h2 hb
        go_wp2_with fail
        go_round
        case rel => exact ⟨k + 1, by go_num, by omega, H⟩
        case measure => simp [RowKit.intOf]; omega
    · have hx := hh.out
      rw [List.drop_eq_nil_of_le (by omega)] at hx
      have H : Hid (v = false) := Lib.hid hx
      clear hx hh
      go_wp2_with fail
      go_ret
      exact ⟨ret_bool H.out.symm, rfl⟩

/-- the hexadecimal digits, as the reference lists them -/
def hexL : List UInt8 := [48, 49, 50, 51, 52, 53, 54, 55, 56, 57, 65, 66, 67, 68, 69, 70, 97, 98, 99, 100, 101, 102]
theorem hexL_no (c : UInt8) (h : ¬ c ∈ hexL) : hexN c.toNat = -1 := by
  have : ∀ n : Fin 256, ¬ (UInt8.ofNat n.1) ∈ hexL → hexN (UInt8.ofNat n.1).toNat = -1 := by decide +kernel
  have h2 := this ⟨c.toNat, c.toNat_lt⟩
  simp at h2
  exact h2 h
theorem hexL_at (k : Nat) (hk : k < 22) (c : UInt8) (h : hexL[k]? = some c) : hexN c.toNat = if 15 < k then (k : Int) - 6 else k := by
  have : ∀ n : Fin 22, hexN (hexL[n.1]?.getD 0).toNat = if 15 < n.1 then (n.1 : Int) - 6 else n.1 := by decide +kernel
  have h2 := this ⟨k, hk⟩
  simp only at h2
  rw [h] at h2
  exact h2

set_option maxHeartbeats 800000 in
theorem digit_any (c : UInt8) (w : World) :
    Calls Tryz.prog 42 #[.int .u8 c.toNat] w fun e w' => e = .returned (.int .i64 (hexN c.toNat)) ∧ w = w' := by
  obtain ⟨v, hv⟩ : ∃ v, v = hexN c.toNat := ⟨_, rfl⟩
  rw [← hv]
  have HV := Lib.hid hv
  clear hv
  go_enter Tryz.func42, Tryz.ntmps42
  go_wp2_with fail
  go_loop [4] (fun s => ∃ k : Nat, s = .int .i64 k ∧ k ≤ 22 ∧ Hid (c ∈ hexL → c ∈ hexL.drop k)) (fun s => 22 - (RowKit.intOf s).toNat)
  case atStart => exact ⟨0, rfl, by omega, Lib.hid id⟩
  case round =>
    obtain ⟨k, rfl, hk, hh⟩ := hrel
    by_cases hlt : k < 22
    · obtain ⟨b, rest, h1, h2, h3⟩ := byte_at hexL k hlt
      have h3' : ∀ h', (⟨#[48, 49, 50, 51, 52, 53, 54, 55, 56, 57, 65, 66, 67, 68, 69, 70, 97, 98, 99, 100, 101, 102]⟩ : ByteArray)[k]'h' = b := h3
      have hkb : hexL[k]? = some b := by
        have := List.drop_eq_getElem_cons (l := hexL) hlt
        rw [h1] at this
        rw [List.getElem?_eq_getElem hlt, (List.cons.inj this).1]
      cases hb : (b == c) with
      | true =>
        have t1 : ((b.toNat : Int) == (c.toNat : Int)) = true := by rw [byteq b c _ rfl]; exact hb
        have hv := hexL_at k hlt b hkb
        rw [eq_of_beq hb, ← HV.out] at hv
        by_cases h15 : 15 < k
        · rw [if_pos h15] at hv
          have H := Lib.hid hv
          clear hv h1 h2 h3 hh hkb hb HV
          go_wp2_with fail
          go_ret
          exact ⟨ret_int H.out.symm, rfl⟩
        · rw [if_neg h15] at hv
          have H := Lib.hid hv
          clear hv h1 h2 h3 hh hkb hb HV
          go_wp2_with fail
          go_ret
          exact ⟨ret_int H.out.symm, rfl⟩
      | false =>
        have t1 : ((b.toNat : Int) == (c.toNat : Int)) = false := by rw [byteq b c _ rfl]; exact hb
        have H : Hid (c ∈ hexL → c ∈ hexL.drop (k + 1)) := Lib.hid (fun g => by
          have := hh.out g
          rw [h1] at this
          rw [h2]
          rcases List.mem_cons.1 this with e | e
          · rw [e] at hb; simp at hb
          · exact e)
        clear h1 h2 h3 hh hkb hb
        go_wp2_with fail
        go_round
        case rel => exact ⟨k + 1, by go_num, by omega, H⟩
        case measure => simp [RowKit.intOf]; omega
    · have H : Hid (v = -1) := Lib.hid (by
        rw [HV.out]
        refine hexL_no c (fun g => ?_)
        have := hh.out g
        rw [List.drop_eq_nil_of_le (by show 22 ≤ k; omega)] at this
        cases this)
      clear hh HV
      go_wp2_with fail
      go_ret
      exact ⟨ret_int H.out.symm, rfl⟩
end Go.Proofs.YtoghjhaagallkaaGreatDoor.link
