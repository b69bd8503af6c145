/- Simple colours: the contracts of colour.Simple, Clean and the reference's. The contracts of the reference's Simple, Clean of a colour. -/
import Derived.Test.YtbhdoocajfkfiaaGreatDoorMe
import Derived.Test.YtbhdoocajfkfiaaGreatDoorMa
import Derived.Test.YtbhdoocajfkfiaaGreatDoorShelf
import Derived.Test.YtbhdoocajfkfiaaGreatDoorMf
import Derived.Shelf.Strings.SlTrimAscii
namespace Go.Proofs.YtbhdoocajfkfiaaGreatDoor.cln
open Go.ChangeShapes Go.WideShapes Go.ChangeAt Go.RowKit Go.Lib Go.Proofs.YtbhdoocajfkfiaaGreatDoor.link

def hexds : List UInt8 := [48, 49, 50, 51, 52, 53, 54, 55, 56, 57, 97, 98, 99, 100, 101, 102]
def hexB (c : UInt8) : Bool := decide (0 ≤ hexN c.toNat)
theorem hex_low (c : UInt8) : hexds.contains (lowC c) = hexB c := by
  have : ∀ n : Fin 256, hexds.contains (lowC (UInt8.ofNat n.1)) = hexB (UInt8.ofNat n.1) := by decide +kernel
  have h2 := this ⟨c.toNat, c.toNat_lt⟩
  simp only [UInt8.ofNat_toNat] at h2
  exact h2
theorem hex_lowC (c : UInt8) : hexB (lowC c) = hexB c := by
  have : ∀ n : Fin 256, hexB (lowC (UInt8.ofNat n.1)) = hexB (UInt8.ofNat n.1) := by decide +kernel
  have h2 := this ⟨c.toNat, c.toNat_lt⟩
  simp only [UInt8.ofNat_toNat] at h2
  exact h2
theorem low_35 (c : UInt8) : (lowC c == 35) = (c == 35) := by
  have : ∀ n : Fin 256, (lowC (UInt8.ofNat n.1) == 35) = (UInt8.ofNat n.1 == 35) := by decide +kernel
  have h2 := this ⟨c.toNat, c.toNat_lt⟩
  simp only [UInt8.ofNat_toNat] at h2
  exact h2
theorem low_twice (c : UInt8) : lowC (lowC c) = lowC c := by
  have : ∀ n : Fin 256, lowC (lowC (UInt8.ofNat n.1)) = lowC (UInt8.ofNat n.1) := by decide +kernel
  have h2 := this ⟨c.toNat, c.toNat_lt⟩
  simp only [UInt8.ofNat_toNat] at h2
  exact h2
theorem lowS_twice (l : List UInt8) : lowS (lowS l) = lowS l := by
  unfold lowS
  rw [List.map_map]
  exact List.map_congr_left (fun c _ => low_twice c)
theorem dropW_none (p : UInt8 → Bool) (l : List UInt8) : (l.dropWhile p == []) = l.all p := by
  induction l with
  | nil => rfl
  | cons c r ih =>
    rw [List.dropWhile_cons, List.all_cons]
    cases h : p c
    · rfl
    · rw [if_pos rfl, ih, Bool.true_and]
theorem trim_all (l cs : List UInt8) : (trimS l cs == []) = l.all (fun c => cs.contains c) := by
  unfold trimS trimLeftS trimRightS
  rw [dropW_none, List.all_reverse]
  rcases dropW_form (fun c => cs.contains c) l.reverse with h | ⟨c, r, h, hc⟩
  · have := dropW_none (fun c => cs.contains c) l.reverse
    rw [h, List.all_reverse] at this
    rw [h, ← this]; rfl
  · have := dropW_none (fun c => cs.contains c) l.reverse
    rw [h, List.all_reverse] at this
    rw [h, List.all_cons, hc, ← this]; rfl
theorem trim_low (l : List UInt8) : (trimS (lowS l) hexds == []) = l.all hexB := by
  rw [trim_all]
  unfold lowS
  rw [List.all_map]
  congr 1
  funext c
  exact hex_low c

/-- a simple colour -/
def simC (l : List UInt8) : Bool := (l.head? == some 35) && (decide (l.tail.length = 6) && l.tail.all hexB)
def zerosC : List UInt8 := [35, 48, 48, 48, 48, 48, 48]
def cleanC (l : List UInt8) : List UInt8 := if simC l = true then lowS l else zerosC
theorem simC_low (l : List UInt8) : simC (lowS l) = simC l := by
  cases l with
  | nil => rfl
  | cons c r =>
    unfold simC lowS
    rw [List.map_cons, List.head?_cons, List.head?_cons, List.tail_cons, List.tail_cons, List.length_map, List.all_map]
    have e : (hexB ∘ lowC) = hexB := by funext c; exact hex_lowC c
    rw [e]
    have := low_35 c
    congr 1
theorem cleanC_again (l : List UInt8) : cleanC (cleanC l) = cleanC l := by
  unfold cleanC
  by_cases h : simC l = true
  · rw [if_pos h, if_pos (by rw [simC_low]; exact h), lowS_twice]
  · rw [if_neg h, if_pos (by decide)]; decide
theorem cleanC_le (l : List UInt8) : (cleanC l).length ≤ l.length + 7 := by
  unfold cleanC lowS zerosC
  split
  · rw [List.length_map]; omega
  · simp

theorem cutpre_1 (l : List UInt8) (c : UInt8) (w : World) :
    Calls Tryz.prog 197 #[.string ⟨l.toArray⟩, .string ⟨#[c]⟩] w fun e w' => e = .returned (.tuple #[.string ⟨(if l.head? = some c then l.tail else l).toArray⟩, .bool (l.head? == some c)]) ∧ w = w' := by
  refine (Tryz.strings_CutPrefix ⟨l.toArray⟩ ⟨#[c]⟩ w).mono ?_
  rintro e w' ⟨rfl, rfl⟩
  refine ⟨?_, rfl⟩
  have e1 : (⟨l.toArray⟩ : ByteArray).data.toList = l := rfl
  have e2 : (⟨#[c]⟩ : ByteArray).data.toList = [c] := rfl
  rw [e1, e2]
  have h : Lib.hasPrefix l [c] = (l.head? == some c) := by
    unfold Lib.hasPrefix
    cases l with
    | nil => rfl
    | cons a r => simp [List.isPrefixOf, Bool.beq_comm]
  unfold Lib.trimPrefix
  rw [h]
  by_cases g : l.head? = some c
  · rw [if_pos g, if_pos (by simpa using g)]; simp
  · rw [if_neg g, if_neg (by simpa using g)]

theorem trim_hex (l : List UInt8) (hl : l.length ≤ 1000000000) (w : World) :
    Calls Tryz.prog 143 #[.string ⟨l.toArray⟩, .string ⟨#[48, 49, 50, 51, 52, 53, 54, 55, 56, 57, 97, 98, 99, 100, 101, 102]⟩] w fun e w' => e = .returned (.string ⟨(trimS l hexds).toArray⟩) ∧ Below w.heap.size w w' :=
  Any.strings_Trim_laid Tryz.lays160 (by kernel_rfl) ⟨l.toArray⟩ ⟨#[48, 49, 50, 51, 52, 53, 54, 55, 56, 57, 97, 98, 99, 100, 101, 102]⟩ w (by rw [bsize]; omega) (by decide) (ascii_of_all (by decide))
theorem empty_is (l : List UInt8) : (l == []) = l.isEmpty := by cases l <;> rfl

set_option maxHeartbeats 800000 in
set_option maxRecDepth 100000 in
theorem simple_any (l : List UInt8) (hl : l.length ≤ 100000000) (w : World) :
    Calls Tryz.prog 157 #[.string ⟨l.toArray⟩] w fun e w' => e = .returned (.bool (simC l)) ∧ Below w.heap.size w w' := by
  obtain ⟨v, hv⟩ : ∃ v, v = simC l := ⟨_, rfl⟩
  rw [← hv]
  unfold simC at hv
  have h1 := cutpre_1 l 35 w
  obtain ⟨t, ht⟩ : ∃ t, t = (if l.head? = some 35 then l.tail else l) := ⟨_, rfl⟩
  rw [← ht] at h1
  cases hb : (l.head? == some 35)
  · rw [hb] at h1 hv
    have HV : Hid (v = false) := Lib.hid hv
    clear hv hb ht
    go_enter Tryz.func157, Tryz.ntmps157
    go_wp2_with fail
    refine h1.mono ?_
    rintro e w1 ⟨rfl, rfl⟩
    go_wp2_with fail
    go_ret
    exact ⟨by rw [HV.out]; rfl, Below.refl _ _⟩
  · rw [hb] at h1 hv
    rw [if_pos (by simpa using hb)] at ht
    rw [← ht, Bool.true_and] at hv
    have htl : t.length ≤ l.length := by rw [ht, List.length_tail]; omega
    by_cases h6 : t.length = 6
    · rw [decide_eq_true h6, Bool.true_and, ← trim_low] at hv
      have t6 : ((t.length : Int) == 6) = true := by rw [h6]; rfl
      have h2 := fun w => tlower_any t (by omega) w
      have hll : (lowS t).length = t.length := by unfold lowS; simp
      have h3 := fun w => trim_hex (lowS t) (by omega) w
      generalize trimS (lowS t) hexds = u at *
      generalize lowS t = lt at *
      rw [empty_is] at hv
      have HV := Lib.hid hv
      clear hv hb ht hll h6
      go_enter Tryz.func157, Tryz.ntmps157
      go_wp2_with fail
      refine h1.mono ?_
      rintro e w1 ⟨rfl, rfl⟩
      go_wp2_with fail
      refine (h2 w).mono ?_
      rintro e w1 ⟨rfl, hB⟩
      go_wp2_with fail
      refine (h3 w1).mono ?_
      rintro e w2 ⟨rfl, hB2⟩
      go_wp2_with fail
      go_ret
      exact ⟨by rw [HV.out]; rfl, below_trans hB hB2⟩
    · rw [decide_eq_false h6, Bool.false_and] at hv
      have t6 : ((t.length : Int) == 6) = false := by simp; omega
      have HV := Lib.hid hv
      clear hv hb ht h6
      go_enter Tryz.func157, Tryz.ntmps157
      go_wp2_with fail
      refine h1.mono ?_
      rintro e w1 ⟨rfl, rfl⟩
      go_wp2_with fail
      go_ret
      exact ⟨by rw [HV.out]; rfl, Below.refl _ _⟩

set_option maxHeartbeats 800000 in
set_option maxRecDepth 100000 in
theorem cleanc_any (l : List UInt8) (hl : l.length ≤ 100000000) (w : World) :
    Calls Tryz.prog 113 #[.string ⟨l.toArray⟩] w fun e w' => e = .returned (.string ⟨(cleanC l).toArray⟩) ∧ Below w.heap.size w w' := by
  have h1 := fun w => simple_any l hl w
  have h2 := fun w => tlower_any l (by omega) w
  obtain ⟨v, hv⟩ : ∃ v, v = cleanC l := ⟨_, rfl⟩
  rw [← hv]
  unfold cleanC at hv
  cases hb : simC l
  · rw [hb] at h1 hv
    have HV : Hid (v = zerosC) := Lib.hid hv
    clear hv hb
    go_enter Tryz.func113, Tryz.ntmps113
    go_wp2_with fail
    refine (h1 w).mono ?_
    rintro e w1 ⟨rfl, hB⟩
    go_wp2_with fail
    go_ret
    exact ⟨by rw [HV.out]; rfl, hB⟩
  · rw [hb] at h1 hv
    have HV : Hid (v = lowS l) := Lib.hid hv
    rw [← HV.out] at h2
    clear hv hb
    go_enter Tryz.func113, Tryz.ntmps113
    go_wp2_with fail
    refine (h1 w).mono ?_
    rintro e w1 ⟨rfl, hB⟩
    go_wp2_with fail
    refine (h2 w1).mono ?_
    rintro e w2 ⟨rfl, hB2⟩
    go_wp2_with fail
    go_ret
    exact ⟨rfl, below_trans hB hB2⟩
end Go.Proofs.YtbhdoocajfkfiaaGreatDoor.cln

namespace Go.Proofs.YtbhdoocajfkfiaaGreatDoor.cln
open Go.ChangeShapes Go.WideShapes Go.ChangeAt Go.RowKit Go.Lib Go.Proofs.YtbhdoocajfkfiaaGreatDoor.link

theorem hexB_no (c : UInt8) (h : hexB c = false) : decide (hexN c.toNat < 0) = true := by
  unfold hexB at h
  simp at h ⊢; omega
theorem hexB_yes (c : UInt8) (h : hexB c = true) : decide (hexN c.toNat < 0) = false := by
  unfold hexB at h
  simp at h ⊢; omega

set_option maxHeartbeats 1600000 in
set_option maxRecDepth 100000 in
theorem rsimple_any (l : List UInt8) (hl : l.length ≤ 100000000) (w : World) :
    Calls Tryz.prog 128 #[.string ⟨l.toArray⟩] w fun e w' => e = .returned (.bool (simC l)) ∧ w = w' := by
  obtain ⟨v, hv⟩ : ∃ v, v = simC l := ⟨_, rfl⟩
  rw [← hv]
  unfold simC at hv
  by_cases h7 : l.length = 7
  · have t7 : ((l.length : Int) != 7) = false := by rw [h7]; rfl
    obtain ⟨c, r, hd1, hd2, hidx⟩ := link.byte_at l 0 (by omega)
    have hlc : l = c :: r := by rw [← hd1]; rfl
    have t35 := byteq c 35 35 rfl
    have hhead : l.head? = some c := by rw [hlc]; rfl
    have htail : l.tail = l.drop 1 := by rw [hlc]; rfl
    rw [hhead, htail, decide_eq_true (show (l.drop 1).length = 6 from by rw [List.length_drop, h7]), Bool.true_and, show (some c == some (35 : UInt8)) = (c == 35) from rfl] at hv
    have hc8 := c.toNat_lt
    cases g : (c == 35)
    · rw [g] at t35 hv
      have n35 : ((c.toNat : Int) != 35) = true := by rw [bne, t35]; rfl
      have HV : Hid (v = false) := Lib.hid hv
      have hge : 0 < l.length := by omega
      have H7 := Lib.hid h7
      clear hv hhead htail hlc hd1 hd2 g h7
      go_enter Tryz.func128, Tryz.ntmps128
      go_wp2_with fail
      go_ret
      exact ⟨by rw [HV.out]; rfl, rfl⟩
    · rw [g, Bool.true_and] at hv
      rw [g] at t35
      have n35 : ((c.toNat : Int) != 35) = false := by rw [bne, t35]; rfl
      have HV : Hid (v = (l.drop 1).all hexB) := Lib.hid hv
      have H7 := Lib.hid h7
      clear hv hhead htail hlc hd1 hd2 g
      have hge : 1 ≤ l.length := by omega
      clear h7
      go_enter Tryz.func128, Tryz.ntmps128
      go_wp2_with fail
      go_loop [3] (fun s => ∃ k : Nat, s = .int .i64 k ∧ k ≤ l.length ∧ Hid (v = (l.drop k).all hexB)) (fun s => l.length - (RowKit.intOf s).toNat)
      case atStart => exact ⟨1, rfl, by omega, HV⟩
      case round =>
        obtain ⟨k, rfl, hk, hh⟩ := hrel
        have H7' := H7.out
        clear hidx t35 n35 hc8
        by_cases hlt : k < l.length
        · obtain ⟨b, r, hd1, hd2, hidx⟩ := link.byte_at l k hlt
          have tk : decide ((k : Int) < 7) = true := decide_eq_true (by omega)
          have hx := hh.out
          rw [hd1, List.all_cons, ← hd2] at hx
          have hcall := digit_any b w
          cases g : hexB b
          · have t0 := hexB_no b g
            rw [g] at hx
            have HX : Hid (v = false) := Lib.hid hx
            clear hx hh hd1 hd2 g H7'
            generalize hexN b.toNat = q at *
            have tq : q < 0 := of_decide_eq_true t0
            go_wp2_with fail
            refine hcall.mono ?_
            rintro e w1 ⟨rfl, rfl⟩
            go_wp2_with fail
            go_ret
            exact ⟨by rw [HX.out]; rfl, rfl⟩
          · have t0 := hexB_yes b g
            rw [g, Bool.true_and] at hx
            have HX := Lib.hid hx
            clear hx hh hd1 hd2 g H7'
            generalize hexN b.toNat = q at *
            have tq : ¬ q < 0 := of_decide_eq_false t0
            go_wp2_with fail
            refine hcall.mono ?_
            rintro e w1 ⟨rfl, rfl⟩
            go_wp2_with fail
            go_round
            case rel => exact ⟨k + 1, by go_num, by omega, HX⟩
            case measure => simp [RowKit.intOf]; omega
        · have hx := hh.out
          rw [List.drop_eq_nil_of_le (by omega)] at hx
          have HX : Hid (v = true) := Lib.hid hx
          have tk : decide ((k : Int) < 7) = false := decide_eq_false (by omega)
          clear hx hh H7'
          go_wp2_with fail
          go_ret
          exact ⟨by rw [HX.out]; rfl, rfl⟩
  · have t7 : ((l.length : Int) != 7) = true := by simp; omega
    have hvf : v = false := by
      rw [hv]
      cases l with
      | nil => rfl
      | cons c r =>
        have : ¬ (c :: r).tail.length = 6 := by
          intro g; apply h7
          rw [List.tail_cons] at g
          rw [List.length_cons, g]
        rw [decide_eq_false this, Bool.false_and, Bool.and_false]
    have HV : Hid (v = false) := Lib.hid hvf
    clear hv hvf h7
    go_enter Tryz.func128, Tryz.ntmps128
    go_wp2_with fail
    go_ret
    exact ⟨by rw [HV.out]; rfl, rfl⟩

set_option maxHeartbeats 800000 in
set_option maxRecDepth 100000 in
theorem rcleanc_any (l : List UInt8) (hl : l.length ≤ 100000000) (w : World) :
    Calls Tryz.prog 78 #[.string ⟨l.toArray⟩] w fun e w' => e = .returned (.string ⟨(cleanC l).toArray⟩) ∧ Below w.heap.size w w' := by
  have h1 := fun w => rsimple_any l hl w
  have h2 := fun w => rlower_any l (by omega) w
  obtain ⟨v, hv⟩ : ∃ v, v = cleanC l := ⟨_, rfl⟩
  rw [← hv]
  unfold cleanC at hv
  cases hb : simC l
  · rw [hb] at h1 hv
    have HV : Hid (v = zerosC) := Lib.hid hv
    clear hv hb
    go_enter Tryz.func78, Tryz.ntmps78
    go_wp2_with fail
    refine (h1 w).mono ?_
    rintro e w1 ⟨rfl, rfl⟩
    go_wp2_with fail
    go_ret
    exact ⟨by rw [HV.out]; rfl, Below.refl _ _⟩
  · rw [hb] at h1 hv
    have HV : Hid (v = lowS l) := Lib.hid hv
    rw [← HV.out] at h2
    clear hv hb
    go_enter Tryz.func78, Tryz.ntmps78
    go_wp2_with fail
    refine (h1 w).mono ?_
    rintro e w1 ⟨rfl, rfl⟩
    go_wp2_with fail
    refine (h2 w).mono ?_
    rintro e w2 ⟨rfl, hB2⟩
    go_wp2_with fail
    go_ret
    exact ⟨rfl, hB2⟩
end Go.Proofs.YtbhdoocajfkfiaaGreatDoor.cln
