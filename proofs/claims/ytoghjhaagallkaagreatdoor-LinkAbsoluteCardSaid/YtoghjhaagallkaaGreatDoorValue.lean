/- The contract of the reference's Value (of digits alone). -/
import Derived.Test.YtoghjhaagallkaaGreatDoorDigs
namespace Go.Proofs.YtoghjhaagallkaaGreatDoor.link
open Go.ChangeShapes Go.WideShapes Go.ChangeAt Go.RowKit Go.Lib

def valN : Nat → List UInt8 → Nat
  | n, [] => n
  | n, c :: r => valN (if n < 1000000 then 10 * n + (c.toNat - 48) else n) r

set_option maxHeartbeats 800000 in
set_option maxRecDepth 100000 in
theorem rvalue_any (l : List UInt8) (hl : l.length ≤ 1000000000) (hd : digsA l = true) (w : World) :
    Calls Tryz.prog 45 #[.string ⟨l.toArray⟩] w fun e w' => e = .returned (.int .i64 (valN 0 l)) ∧ w = w' := by
  obtain ⟨v, hv⟩ : ∃ v, v = valN 0 l := ⟨_, rfl⟩
  rw [← hv]
  have HV : Hid (v = valN 0 (l.drop 0) ∧ digsA (l.drop 0) = true) := Lib.hid ⟨hv, hd⟩
  clear hv hd
  go_enter Tryz.func45, Tryz.ntmps45
  go_wp2_with fail
  go_loop [3, 4] (fun x s => ∃ k n : Nat, x = .int .i64 n ∧ s = .int .i64 k ∧ k ≤ l.length ∧ Hid (n < 20000000) ∧ Hid (v = valN n (l.drop k) ∧ digsA (l.drop k) = true)) (fun _ s => l.length - (RowKit.intOf s).toNat)
  case atStart => exact ⟨0, 0, rfl, rfl, by omega, Lib.hid (by decide), HV⟩
  case round =>
    obtain ⟨k, n, rfl, rfl, hk, hn0, hh⟩ := hrel
    by_cases hlt : k < l.length
    · obtain ⟨c, rest, hd1, hd2, hidx⟩ := byte_at l k hlt
      have hx := hh.out
      rw [hd1, valN, digsA, ← hd2, Bool.and_eq_true] at hx
      have hlt8 := c.toNat_lt
      obtain ⟨hx1, hx2, hx3⟩ := hx
      have hc : 48 ≤ c.toNat ∧ c.toNat ≤ 57 := by
        unfold digC at hx2
        simpa using hx2
      obtain ⟨c1, c2⟩ := hc
      clear hx2
      by_cases hm : n < 1000000
      · rw [if_pos hm] at hx1
        have HX := Lib.hid (And.intro hx1 hx3)
        have hmi : (n : Int) < 1000000 := by omega
        have HM := Lib.hid hm
        clear hx1 hx3 hd1 hd2 hh hm
        go_wp2_with fail
        go_round
        case rel =>
          have hm := HM.out
          refine ⟨k + 1, 10 * n + (c.toNat - 48), ?_, by go_num, by omega, Lib.hid (by omega), HX⟩
          go_num
        case measure => simp [RowKit.intOf]; omega
      · rw [if_neg hm] at hx1
        have HX := Lib.hid (And.intro hx1 hx3)
        have hmi : ¬ (n : Int) < 1000000 := by omega
        clear hx1 hx3 hd1 hd2 hh hm
        go_wp2_with fail
        go_round
        case rel => exact ⟨k + 1, n, by go_num, by go_num, by omega, hn0, HX⟩
        case measure => simp [RowKit.intOf]; omega
    · have HX : Hid (v = n) := Lib.hid (by rw [hh.out.1, List.drop_eq_nil_of_le (by omega)]; rfl)
      clear hh
      go_wp2_with fail
      go_ret
      exact ⟨ret_int (by rw [HX.out]), rfl⟩
end Go.Proofs.YtoghjhaagallkaaGreatDoor.link
