/- The contracts of the reference's Valid and of text.Valid: both say what the library's decoder says. -/
import Derived.Test.YtoghjhaagallkaaGreatDoorWorldU
import Derived.Test.YtoghjhaagallkaaGreatDoorSign
namespace Go.Proofs.YtoghjhaagallkaaGreatDoor.utf
open Go.ChangeShapes Go.WideShapes Go.ChangeAt Go.RowKit Go.Lib

set_option maxHeartbeats 400000 in
theorem tvalid_any (l : List UInt8) (hl : l.length ≤ 1000000000) (w : World) (hU : GU w) :
    Calls Tryz.prog 25 #[.string ⟨l.toArray⟩] w fun e w' => e = .returned (.bool (validD l)) ∧ Below w.heap.size w w' := by
  have h := valid_lib l hl w hU
  generalize validD l = v at *
  go_enter Tryz.func25, Tryz.ntmps25
  go_wp2_with fail
  refine h.mono ?_
  rintro e w' ⟨rfl, hB⟩
  go_wp2_with fail
  go_ret
  exact ⟨rfl, hB⟩

theorem ret_bool {a b : Bool} (h : a = b) : Ending.returned (.bool a) = .returned (.bool b) := by rw [h]

set_option maxHeartbeats 800000 in
set_option maxRecDepth 100000 in
theorem rvalid_any (l : List UInt8) (hl : l.length ≤ 1000000000) (w : World) :
    Calls Tryz.prog 41 #[.string ⟨l.toArray⟩] w fun e w' => e = .returned (.bool (validD l)) ∧ w = w' := by
  obtain ⟨v, hv⟩ : ∃ v, v = validD l := ⟨_, rfl⟩
  have HV := Lib.hid hv
  rw [← hv]
  clear hv
  go_enter Tryz.func41, Tryz.ntmps41
  go_wp2_with fail
  go_loop [3] (fun s => ∃ k : Nat, s = .int .i64 k ∧ k ≤ l.length ∧ Hid (v = validD (l.drop k))) (fun s => l.length - (RowKit.intOf s).toNat)
  case atStart => exact ⟨0, rfl, by omega, Lib.hid (by rw [HV.out]; rfl)⟩
  case round =>
    obtain ⟨k, rfl, hk, hh⟩ := hrel
    by_cases hlt : k < l.length
    · have hne : l.drop k ≠ [] := by
        intro g
        have := congrArg List.length g
        simp at this; omega
      have hs := valid_step (l.drop k) hne
      have hle := signS_le (l.drop k) hne
      rw [List.length_drop] at hle
      have hcall := sign_any l k k rfl hlt hl w
      rw [← hh.out] at hs
      generalize signS (l.drop k) = sg at *
      obtain ⟨n, gr⟩ := sg
      simp only at hs hle hcall
      by_cases hn : n = 0
      · rw [if_pos hn] at hs
        subst hn
        have H := Lib.hid hs
        clear hs hh
        go_wp2_with fail
        refine hcall.mono ?_
        rintro e w' ⟨rfl, rfl⟩
        clear hcall
        go_wp2_with fail
        go_ret
        exact ⟨ret_bool H.out.symm, rfl⟩
      · rw [if_neg hn, List.drop_drop] at hs
        have H := Lib.hid hs
        clear hs hh
        go_wp2_with fail
        refine hcall.mono ?_
        rintro e w' ⟨rfl, rfl⟩
        clear hcall
        have t1 : ((n : Int) == 0) = false := by simp; omega
        go_wp2_with fail
        go_round
        case rel => exact ⟨k + n, by go_num, by omega, H⟩
        case measure => simp [RowKit.intOf]; omega
    · have H : Hid (v = true) := Lib.hid (by rw [hh.out, List.drop_eq_nil_of_le (by omega)]; rfl)
      go_wp2_with fail
      go_ret
      exact ⟨ret_bool H.out.symm, rfl⟩
end Go.Proofs.YtoghjhaagallkaaGreatDoor.utf
