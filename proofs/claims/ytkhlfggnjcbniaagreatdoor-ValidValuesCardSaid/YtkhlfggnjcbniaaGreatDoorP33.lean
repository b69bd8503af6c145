/- The contract of the reference's count. -/
import Derived.Lib.Hide
import Derived.Lib.ItoaNum
import Derived.Lib.SlTrimSet
import Derived.ProofKit
import Derived.WalkKit
import Derived.Test.YtkhlfggnjcbniaaGreatDoorRows
import Derived.Test.YtkhlfggnjcbniaaGreatDoorP2
namespace Go.Proofs.YtkhlfggnjcbniaaGreatDoor.num
open Go.ChangeShapes Go.WideShapes Go.ChangeAt Go.RowKit

theorem ret_int {k : IntKind} {a b : Int} (h : a = b) : Ending.returned (.int k a) = .returned (.int k b) := by rw [h]

set_option maxHeartbeats 400000 in
theorem count_any (l : List UInt8) (k : Nat) (w : World) (hk : k ≤ l.length) (hl : l.length ≤ 1000000000) :
    Calls Tryz.prog 277 #[.string ⟨l.toArray⟩, .int .i64 k] w fun e w' => e = .returned (.int .i64 (cnt (l.drop k) : Nat)) ∧ w = w' := by
  go_enter Tryz.func277, Tryz.ntmps277
  go_wp2
  go_loop [5] (fun i => ∃ j : Nat, k + j ≤ l.length ∧ cnt (l.drop k) = j + cnt (l.drop (k + j)) ∧ i = .int .i64 j) (fun i => l.length - k - (intOf i).toNat)
  case atStart => exact ⟨0, by omega, by simp, rfl⟩
  case round =>
    obtain ⟨j, hj, he, rfl⟩ := hrel
    have HE := Lib.hid he; clear he
    by_cases hlt : k + j < l.length
    · obtain ⟨c, rest, h1, h2, h3⟩ := byte_at l (k + j) hlt
      have H1 := Lib.hid h1; have H2 := Lib.hid h2; clear h1 h2
      cases hd : isDig c
      · have hb := isDig_no c hd
        have HD := Lib.hid hd; clear hd
        rcases hb with hb | hb
        all_goals
          go_wp2
          go_ret
          exact ⟨ret_int (by rw [HE.out, H1.out, cnt, HD.out]; simp), rfl⟩
      · have hb := (isDig_iff c).1 hd
        have HD := Lib.hid hd; clear hd
        obtain ⟨hb1, hb2⟩ := hb
        go_wp2
        go_round
        case rel => exact ⟨j + 1, by omega, by rw [HE.out, H1.out, cnt, HD.out, ← Nat.add_assoc, H2.out]; simp; omega, by go_num⟩
        case measure => simp [intOf]; omega
    · go_wp2
      go_ret
      exact ⟨ret_int (by rw [HE.out, List.drop_eq_nil_of_le (by omega)]; simp [cnt]), rfl⟩

end Go.Proofs.YtkhlfggnjcbniaaGreatDoor.num
