/- The contracts of the reference's digit, two. -/
import Derived.Test.YtbaloklcpfjmeaaGreatDoorRWeek3
import Derived.Test.YtbaloklcpfjmeaaGreatDoorMomClock
import Derived.Outline
import Derived.WalkSpells
import Derived.RegionTactic
import Derived.ChangeAlike
namespace Go.Proofs.YtbaloklcpfjmeaaGreatDoor.mom
open Go.ChangeShapes Go.WideShapes Go.ChangeAt Go.RowKit Go.Lib Go.Proofs.YtbaloklcpfjmeaaGreatDoor.num Go.Proofs.YtbaloklcpfjmeaaGreatDoor.cal Go.Proofs.YtbaloklcpfjmeaaGreatDoor.days

theorem at_byte (l : List UInt8) (i : Nat) (h : i < l.length) : ∃ c, l[i]? = some c ∧ ∀ h', (⟨l.toArray⟩ : ByteArray)[i]'h' = c :=
  ⟨l[i], List.getElem?_eq_getElem h, fun _ => rfl⟩
theorem rret_bool {a b : Bool} (h : a = b) : Ending.returned (.bool a) = .returned (.bool b) := by rw [h]
theorem rret_int {a b : Int} (h : a = b) : Ending.returned (.int .i64 a) = .returned (.int .i64 b) := by rw [h]

set_option maxHeartbeats 800000 in
set_option maxRecDepth 100000 in
theorem rdigit_any (l : List UInt8) (a : Int) (k : Nat) (ha : a = k) (hl : l.length ≤ 1000000000) (hk : k ≤ 2000000000) (w : World) :
    Calls Tryz.prog 58 #[.string ⟨l.toArray⟩, .int .i64 a] w fun e w' => e = .returned (.bool (digR l k)) ∧ w = w' := by
  subst ha
  by_cases h : k < l.length
  · obtain ⟨c, h1, h2⟩ := at_byte l k h
    have hc := c.toNat_lt
    have HV : Hid (digR l k = isDig c) := Lib.hid (by unfold digR; rw [h1])
    clear h1
    by_cases c1 : c.toNat < 48
    · have HX : Hid (digR l k = false) := Lib.hid (by rw [HV.out, ← Bool.not_eq_true, isDig_iff]; omega)
      go_enter Tryz.func58, Tryz.ntmps58
      go_wp2_with fail
      go_ret
      exact ⟨rret_bool HX.out.symm, rfl⟩
    · by_cases c2 : 57 < c.toNat
      · have HX : Hid (digR l k = false) := Lib.hid (by rw [HV.out, ← Bool.not_eq_true, isDig_iff]; omega)
        go_enter Tryz.func58, Tryz.ntmps58
        go_wp2_with fail
        go_ret
        exact ⟨rret_bool (by rw [HX.out]; simp; omega), rfl⟩
      · have HX : Hid (digR l k = true) := Lib.hid (by rw [HV.out, isDig_iff]; omega)
        go_enter Tryz.func58, Tryz.ntmps58
        go_wp2_with fail
        go_ret
        exact ⟨rret_bool (by rw [HX.out]; simp; omega), rfl⟩
  · have HX : Hid (digR l k = false) := Lib.hid (by unfold digR; rw [List.getElem?_eq_none (by omega)])
    go_enter Tryz.func58, Tryz.ntmps58
    go_wp2_with fail
    go_ret
    exact ⟨rret_bool HX.out.symm, rfl⟩

theorem digR_byte (l : List UInt8) (k : Nat) (h : digR l k = true) : k < l.length ∧ ∃ c : UInt8, (∀ h', (⟨l.toArray⟩ : ByteArray)[k]'h' = c) ∧ dvR l k = c.toNat - 48 ∧ 48 ≤ c.toNat ∧ c.toNat ≤ 57 := by
  rcases Nat.lt_or_ge k l.length with g | g
  · obtain ⟨c, h1, h2⟩ := at_byte l k g
    unfold digR at h
    rw [h1] at h
    have hd := (isDig_iff c).1 h
    refine ⟨g, c, h2, ?_, by omega, by omega⟩
    unfold dvR
    rw [h1]
    exact dv_eq c
  · unfold digR at h
    rw [List.getElem?_eq_none g] at h
    cases h

set_option maxHeartbeats 800000 in
set_option maxRecDepth 100000 in
theorem rtwo_any (l : List UInt8) (a : Int) (k : Nat) (ha : a = k) (hl : l.length ≤ 1000000000) (hk : k ≤ 1999999999) (w : World) :
    Calls Tryz.prog 38 #[.string ⟨l.toArray⟩, .int .i64 a] w fun e w' => e = .returned (.int .i64 (twoR l k)) ∧ Below w.heap.size w w' := by
  subst ha
  have g1 := fun w => rdigit_any l k k rfl hl (by omega) w
  have g2 := fun w => rdigit_any l (k + 1) (k + 1) rfl hl (by omega) w
  cases h1 : digR l k with
  | false =>
    have HV : Hid (twoR l k = -1) := Lib.hid (by unfold twoR; rw [h1]; rfl)
    rw [h1] at g1
    clear h1
    go_enter Tryz.func38, Tryz.ntmps38
    go_wp2_with fail
    refine (g1 _).mono ?_
    rintro e w' ⟨rfl, rfl⟩
    go_wp2_with fail
    go_ret
    exact ⟨rret_int HV.out.symm, Below.refl _ _⟩
  | true =>
    cases h2 : digR l (k + 1) with
    | false =>
      have HV : Hid (twoR l k = -1) := Lib.hid (by unfold twoR; rw [h1, h2]; rfl)
      rw [h1] at g1
      rw [h2] at g2
      clear h1 h2
      go_enter Tryz.func38, Tryz.ntmps38
      go_wp2_with fail
      refine (g1 _).mono ?_
      rintro e w' ⟨rfl, rfl⟩
      go_wp2_with fail
      refine (g2 _).mono ?_
      rintro e w' ⟨rfl, rfl⟩
      go_wp2_with fail
      go_ret
      exact ⟨rret_int HV.out.symm, Below.refl _ _⟩
    | true =>
      obtain ⟨l1, c, q1, v1, c1, c2⟩ := digR_byte l k h1
      obtain ⟨l2, d, q2, v2, d1, d2⟩ := digR_byte l (k + 1) h2
      have HV : Hid (twoR l k = (((c.toNat - 48) * 10 + (d.toNat - 48) : Nat) : Int)) := Lib.hid (by unfold twoR; rw [h1, h2, v1, v2]; rfl)
      rw [h1] at g1
      rw [h2] at g2
      clear h1 h2 v1 v2
      have hc := c.toNat_lt
      have hd := d.toNat_lt
      go_enter Tryz.func38, Tryz.ntmps38
      go_wp2_with fail
      refine (g1 _).mono ?_
      rintro e w' ⟨rfl, rfl⟩
      go_wp2_with fail
      refine (g2 _).mono ?_
      rintro e w' ⟨rfl, rfl⟩
      go_wp2_with fail
      go_region
      all_goals
        go_wp2_with fail
        go_ret
        exact ⟨rret_int (by rw [HV.out]; omega), (Below.refl _ _).drew⟩
end Go.Proofs.YtbaloklcpfjmeaaGreatDoor.mom
