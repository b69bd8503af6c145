/- The contracts of the reference's last and first. -/
import Derived.Test.YtoghjhaagallkaaGreatDoorLast
namespace Go.Proofs.YtoghjhaagallkaaGreatDoor.link
open Go.ChangeShapes Go.WideShapes Go.ChangeAt Go.RowKit Go.Lib Go.Proofs.YtoghjhaagallkaaGreatDoor.str

set_option maxHeartbeats 800000 in
set_option maxRecDepth 100000 in
theorem rlast_any (l : List UInt8) (c : UInt8) (hl : l.length ≤ 1000000000) (w : World) :
    Calls Tryz.prog 43 #[.string ⟨l.toArray⟩, .int .u8 c.toNat] w fun e w' => e = .returned (.int .i64 (optI (lastB c l))) ∧ w = w' := by
  obtain ⟨v, hv⟩ : ∃ v, v = optI (lastB c l) := ⟨_, rfl⟩
  rw [← hv]
  have HV : Hid (v = optI (lastB c (l.take l.length))) := Lib.hid (by rw [hv, List.take_length])
  clear hv
  have hc8 := c.toNat_lt
  go_enter Tryz.func43, Tryz.ntmps43
  go_wp2_with fail
  go_loop [5] (fun s => ∃ (k : Nat) (i : Int), s = .int .i64 i ∧ i = (k : Int) - 1 ∧ k ≤ l.length ∧ Hid (v = optI (lastB c (l.take k)))) (fun s => (RowKit.intOf s + 1).toNat)
  case atStart => exact ⟨l.length, _, by go_num, by omega, by omega, HV⟩
  case round =>
    obtain ⟨k, i, rfl, hi, hk, hh⟩ := hrel
    cases k with
    | zero =>
      have HY : Hid (v = -1) := Lib.hid (by rw [hh.out]; rfl)
      have hneg : ¬ 0 ≤ i := by omega
      clear hh hi
      go_wp2_with fail
      go_ret
      exact ⟨ret_int HY.out.symm, rfl⟩
    | succ k =>
      obtain rfl : i = (k : Int) := by omega
      have hlt : k < l.length := by omega
      obtain ⟨b, rest, hd1, hd2, hidx⟩ := byte_at l k hlt
      have hb : l[k] = b := by
        have := List.drop_eq_getElem_cons hlt
        rw [hd1] at this
        exact (List.cons.inj this).1.symm
      have hx := hh.out
      rw [List.take_succ_eq_append_getElem hlt, lastB_snoc, hb, List.length_take, Nat.min_eq_left (by omega)] at hx
      have tb : ((b.toNat : Int) == c.toNat) = (b == c) := byteq b c _ rfl
      have hb8 := b.toNat_lt
      by_cases hbc : b = c
      · rw [if_pos hbc] at hx
        have HY : Hid (v = (k : Int)) := Lib.hid hx
        have tb' : ((b.toNat : Int) == c.toNat) = true := by rw [tb]; simpa using hbc
        clear hx hh hd1 hd2 tb hb hbc hi
        go_wp2_with fail
        go_ret
        exact ⟨ret_int HY.out.symm, rfl⟩
      · rw [if_neg hbc] at hx
        have HY := Lib.hid hx
        have tb' : ((b.toNat : Int) == c.toNat) = false := by rw [tb]; simpa using hbc
        clear hx hh hd1 hd2 tb hb hbc hi
        go_wp2_with fail
        go_round
        case rel => exact ⟨k, _, by go_num, by go_num, by omega, HY⟩
        case measure => first | (simp [RowKit.intOf]; done) | (simp [RowKit.intOf]; omega)

set_option maxHeartbeats 800000 in
set_option maxRecDepth 100000 in
theorem rfirst_any (l : List UInt8) (c : UInt8) (hl : l.length ≤ 1000000000) (w : World) :
    Calls Tryz.prog 17 #[.string ⟨l.toArray⟩, .int .u8 c.toNat] w fun e w' => e = .returned (.int .i64 (firstN c l : Nat)) ∧ w = w' := by
  obtain ⟨v, hv⟩ : ∃ v, v = firstN c l := ⟨_, rfl⟩
  rw [← hv]
  have HV : Hid (v = 0 + firstN c (l.drop 0)) := Lib.hid (by rw [hv]; simp)
  clear hv
  have hc8 := c.toNat_lt
  go_enter Tryz.func17, Tryz.ntmps17
  go_wp2_with fail
  go_loop [5] (fun s => ∃ (k : Nat), s = .int .i64 k ∧ k ≤ l.length ∧ Hid (v = k + firstN c (l.drop k))) (fun s => l.length - (RowKit.intOf s).toNat)
  case atStart => exact ⟨0, rfl, by omega, HV⟩
  case round =>
    obtain ⟨k, rfl, hk, hh⟩ := hrel
    by_cases hlt : k < l.length
    · obtain ⟨b, rest, hd1, hd2, hidx⟩ := byte_at l k hlt
      have hx := hh.out
      rw [hd1, firstN_cons, ← hd2] at hx
      have tb : ((b.toNat : Int) == c.toNat) = (b == c) := byteq b c _ rfl
      have hb8 := b.toNat_lt
      by_cases hbc : b = c
      · rw [if_pos hbc] at hx
        have HY : Hid (v = k) := Lib.hid hx
        have tb' : ((b.toNat : Int) == c.toNat) = true := by rw [tb]; simpa using hbc
        clear hx hh hd1 hd2 tb hbc
        go_wp2_with fail
        go_ret
        exact ⟨ret_int (by rw [HY.out]), rfl⟩
      · rw [if_neg hbc] at hx
        have HY : Hid (v = (k + 1) + firstN c (l.drop (k + 1))) := Lib.hid (by omega)
        have tb' : ((b.toNat : Int) == c.toNat) = false := by rw [tb]; simpa using hbc
        clear hx hh hd1 hd2 tb hbc
        go_wp2_with fail
        go_round
        case rel => exact ⟨k + 1, by go_num, by omega, HY⟩
        case measure => simp [RowKit.intOf]; omega
    · have HY : Hid (v = l.length) := Lib.hid (by
        rw [hh.out, List.drop_eq_nil_of_le (by omega)]
        show k + 0 = _
        omega)
      clear hh
      go_wp2_with fail
      go_ret
      exact ⟨ret_int (by rw [HY.out]), rfl⟩
end Go.Proofs.YtoghjhaagallkaaGreatDoor.link
